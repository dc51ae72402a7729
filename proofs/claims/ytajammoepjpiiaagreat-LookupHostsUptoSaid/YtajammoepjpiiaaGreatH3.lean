/- A piece of the proof. Proved: where the arguments are together of bulk at most 1048576, the law LookupHosts returns true (what is true hangs on zones alone), and what it was given reads afterwards as it did before. No other conditions. -/
import Derived.WalkKit
import Derived.CallsIn
import Derived.RangeFuncIn
import Derived.RangeFuncLeaves
import Derived.Orders
import Derived.OrdersIn
import Derived.Scope
import Derived.RangeFuncOwn
import Derived.Stop.SameAnswer
import Derived.Laws.Externs
import Derived.Lib.Bytealg
import Derived.ProofKit
import Derived.OpenShut
import Derived.ReadAgain
import Derived.Deep.Slices
import Derived.ChangeSame
import Derived.Test.YtajammoepjpiiaaGreatProg
import Derived.KernelRfl
import Derived.Test.YtajammoepjpiiaaGreatRows
import Derived.Maps.RangeRun
import Derived.JoinedCond
import Derived.Test.YtajammoepjpiiaaGreatH2
set_option linter.unusedSimpArgs false
set_option linter.unusedVariables false
section
namespace Go.Proofs.YtajammoepjpiiaaGreat
open Go.Vm
set_option maxRecDepth 2000000
def fp {α:Type} (f : α→Nat) (l:List α):Nat:=l.foldr (fun x k=>f x+k+1) 0
def v8 (d:c0):Nat:=fp bw d.names+d.nums.length+fp ByteArray.size d.texts+d.raw.length
theorem rp {α:Type} {f : α→Nat} {l:List α} {x : α} (h:x ∈ l):f x<fp f l:=by
 induction l with
 |nil=>cases h
 |cons a l ih=>
  simp only [fp,List.foldr_cons] at ih ⊢
  rcases List.mem_cons.1 h with rfl|h
  ·omega
  ·have:=ih h;omega
theorem ru {α:Type} (f : α→Nat) (l:List α):l.length≤fp f l:=by
 induction l with
 |nil=>exact Nat.le_refl _
 |cons a l ih=>simp only [fp,List.foldr_cons,List.length_cons] at ih ⊢;omega
def dy (d:c0):Prop:=v8 d≤16777216
instance (d:c0):Decidable (dy d):=inferInstanceAs (Decidable (_≤_))
theorem dy.name {d:c0} (h:dy d):∀ n ∈ d.names,bj n:=fun n hn=>by
 have h1:bw n<fp bw d.names:=rp hn
 unfold dy v8 at h;unfold bj;omega
theorem dy.text {d:c0} (h:dy d):∀ s ∈ d.texts,s.size≤16777216:=fun s hs=>by
 have h1:ByteArray.size s<fp ByteArray.size d.texts:=rp hs
 unfold dy v8 at h;omega
theorem dy.lens {d:c0} (h:dy d):d.names.length≤16777216∧d.nums.length≤16777216∧d.texts.length≤16777216∧d.raw.length≤16777216:=by
 have h1:=ru bw d.names
 have h2:=ru ByteArray.size d.texts
 unfold dy v8 at h;omega
noncomputable def Qb (s:Shape):Int:=IntKind.u32.wrap (1 * 2 ^ (if (8 * s.size).toNat≤32 then (8 * s.size).toNat else 32))
noncomputable def Ay (s:Shape) (t:UInt16) (d:c0):Bool:=
 if (d.names.length:Int)≠s.names∨(d.nums.length:Int)≠s.nums∨(0≤s.raw∧(d.raw.length:Int)≠s.raw) then false
 else if s.size<4∧(d.nums.any fun n=>decide (Qb s≤(n.toNat:Int)))=true then false
 else if (t.toNat:Int)=257 then decide (d.texts.length=2) && On (d.texts.headD ⟨#[]⟩)
 else if s.texts=0 then decide (d.texts.length=0)
 else decide (0<d.texts.length) && !(d.texts.any fun x=>decide (255<x.size))
noncomputable def Vc (s:Shape) (t:UInt16) (d:c0):Bool:=
 if s.size<4∧(d.nums.any fun n=>decide (Qb s≤(n.toNat:Int)))=true then false
 else if (t.toNat:Int)=257 then decide (d.texts.length=2) && On (d.texts.headD ⟨#[]⟩)
 else if s.texts=0 then decide (d.texts.length=0)
 else decide (0<d.texts.length) && !(d.texts.any fun x=>decide (255<x.size))
theorem aA2 (s:Shape) (t:UInt16) (d:c0) (hs : 0≤s.size∧s.size≤4) (hd:dy d):wl PP [aG8] 0 (Tryz.f160.body.getD .skip) (dj PP Tryz.f160.results.toList (fun r st=>(r1 bn).get true st.h r=some (Ay s t d))) (b9 0 [u7.val false s,da.val false t,bz.val false d]) (bq []):=by
 unfold Tryz.f160
 obtain ⟨l1,l2,l3,l4⟩:=hd.lens
 simp only [Fs,ku,dm]
 simp only [↓wR,RA,simprocAttr,TF]
 rw [fg];refine ⟨fun ⟨h,e⟩=>?_,fun ⟨h,e⟩=>?_⟩
 ·have hv:Ay s t d=false:=if_pos (.inl e)
  simp only [↓wR,RA,simprocAttr,TF,h,hv]
 simp only [↓wR,RA,simprocAttr,TF,h]
 rw [fg];refine ⟨fun ⟨h2,e2⟩=>?_,fun ⟨h2,e2⟩=>?_⟩
 ·have hv:Ay s t d=false:=if_pos (.inr (.inl e2))
  simp only [↓wR,RA,simprocAttr,TF,h2,hv]
 simp only [↓wR,RA,simprocAttr,TF,h2]
 have hraw:¬ (0≤s.raw∧(d.raw.length:Int)≠s.raw)→Ay s t d=Vc s t d:=fun hr=>if_neg (fun h=>by
  rcases h with h|h|h
  ·exact h e
  ·exact h e2
  ·exact hr h)
 rw [bm];refine ⟨fun h3=>?_,fun h3=>?_⟩
 simp only [↓wR,RA,simprocAttr,TF,h3]
 rw [fg];refine ⟨fun ⟨h4,e4⟩=>?_,fun ⟨h4,e4⟩=>?_⟩
 have hv:Ay s t d=false:=if_pos (.inr (.inr ⟨h3,e4⟩))
 simp only [↓wR,RA,simprocAttr,TF,h4,hv]
 rw [hraw (fun q=>q.2 e4)]
 simp only [↓wR,RA,simprocAttr,TF,h4]
 rotate_left
 rw [hraw (fun q=>h3 q.1)]
 simp only [↓wR,RA,simprocAttr,TF,h3]
 all_goals
  clear hraw
  refine di [1,3,5,37,38,39] (fun (i:Nat)=>[.sc (.int .u16 t.toNat),.ptr 0 0,.ptr 1 0,.vl false 1 (d.nums.map (bg.val false)),.sc (.int .i64 d.nums.length),.sc (.int .i64 i)]) (fun _=>[some (.row [.sc (.int .i64 s.names),.sc (.int .i64 s.nums),.sc (.int .i64 s.size),.sc (.int .i64 s.texts),.sc (.int .i64 s.raw)] 0 2 214),some (.row [.vl false 1 (d.names.map (aw.val false)),.vl false 1 (d.nums.map (bg.val false)),.vl false 1 (d.texts.map (aq.val false)),.vl false 1 (d.raw.map (cj.val false))] 0 2 77)]) (fun i=>i≤d.nums.length∧(s.size<4→(d.nums.any fun n=>decide (Qb s≤(n.toNat:Int)))=((d.nums.drop i).any fun n=>decide (Qb s≤(n.toNat:Int))))) (fun i=>d.nums.length - i) 0 ⟨Nat.zero_le _,fun _=>rfl⟩ (by simp only [↓wR,RA,simprocAttr,TF]<;>rfl) (by simp only [↓wR,RA,simprocAttr,TF]<;>rfl) ?_
  clear h h2 e e2
  rintro i ⟨hi,hR⟩
  simp only [↓wR,RA,simprocAttr,TF]
  rw [bm];refine ⟨fun h=>?_,fun h=>?_⟩
  ·obtain ⟨c,hc,hd1,hlt⟩:=dv (decide_eq_true h)
   rw [hd1,List.any_cons] at hR
   simp only [↓wR,RA,simprocAttr,TF,h,hc]
   rw [bm];refine ⟨fun h5=>?_,fun h5=>?_⟩
   ·have hR:=hR h5
    have h80:(0:Int)≤8 * s.size:=by omega
    simp only [↓wR,RA,simprocAttr,TF,h5,h80];repeat (simp (disch:=omega) only [ah,cb,cd,cg,cf];try simp only [↓wR,RA,simprocAttr,TF,h5,h80])
    rw [bm];refine ⟨fun h6=>?_,fun h6=>?_⟩
    ·have hv:Vc s t d=false:=by
      rw [Vc,if_pos ⟨h5,by rw [hR,decide_eq_true (show Qb s≤(c.toNat:Int) from h6)];rfl⟩]
     simp only [↓wR,RA,simprocAttr,TF,h6,hv]
    ·simp only [↓wR,RA,simprocAttr,TF,h6];repeat (simp (disch:=omega) only [ah,cb,cd,cg,cf];try simp only [↓wR,RA,simprocAttr,TF,h6])
     refine ⟨i+1,⟨hlt,fun _=>?_⟩,by omega,by (first|rfl|trivial|omega|((try (simp (disch:=omega) only [ah]));(try (simp only [FB]));first|done|rfl|omega))⟩
     rw [hR,decide_eq_false (show ¬ Qb s≤(c.toNat:Int) from h6),Bool.false_or]
   ·simp only [↓wR,RA,simprocAttr,TF,h5];repeat (simp (disch:=omega) only [ah,cb,cd,cg,cf];try simp only [↓wR,RA,simprocAttr,TF,h5])
    exact ⟨i+1,⟨hlt,fun h=>h.elim⟩,by omega,by (first|rfl|trivial|omega|((try (simp (disch:=omega) only [ah]));(try (simp only [FB]));first|done|rfl|omega))⟩
  ·rw [dz (decide_eq_false h),List.any_nil] at hR
   have hr:Vc s t d=if (t.toNat:Int)=257 then decide (d.texts.length=2) && On (d.texts.headD ⟨#[]⟩) else if s.texts=0 then decide (d.texts.length=0) else decide (0<d.texts.length) && !(d.texts.any fun x=>decide (255<x.size)):=by
    rw [Vc,if_neg];rintro ⟨q1,q2⟩;rw [hR q1] at q2;cases q2
   simp only [↓wR,RA,simprocAttr,TF,h]
   rw [c9];refine ⟨fun ⟨h6,e6⟩=>?_,fun ⟨h6,e6⟩=>?_⟩
   ·rw [if_pos e6] at hr
    simp only [↓wR,RA,simprocAttr,TF,h6]
    rw [c9];refine ⟨fun ⟨h7,e7⟩=>?_,fun ⟨h7,e7⟩=>?_⟩
    ·obtain ⟨c,hc⟩:∃ c,d.texts[0]? = some c:=⟨_,List.getElem?_eq_getElem (by omega)⟩
     have hh:d.texts.headD ⟨#[]⟩=c:=by
      cases ht:d.texts with
      |nil=>rw [ht] at hc;cases hc
      |cons a l=>rw [ht] at hc;simpa using hc
     rw [hh,decide_eq_true (show d.texts.length=2 by omega)] at hr
     simp only [↓wR,RA,simprocAttr,TF,h7,hc,V1,hd.text c (List.mem_of_getElem? hc)]
     rw [hr];rfl
    ·simp only [↓wR,RA,simprocAttr,TF,h7]
     rw [hr,decide_eq_false (show ¬ d.texts.length=2 by omega)];rfl
   ·rw [if_neg e6] at hr
    simp only [↓wR,RA,simprocAttr,TF,h6]
    rw [c9];refine ⟨fun ⟨h7,e7⟩=>?_,fun ⟨h7,e7⟩=>?_⟩
    ·rw [if_pos e7] at hr
     simp only [↓wR,RA,simprocAttr,TF,h7]
     rw [hr];congr 1
     rw [Bool.eq_iff_iff];simp
    ·rw [if_neg e7] at hr
     simp only [↓wR,RA,simprocAttr,TF,h7]
     rw [bm];refine ⟨fun h8=>?_,fun h8=>?_⟩
     ·simp only [↓wR,RA,simprocAttr,TF,h8]
      refine bt (T:=[]) (aj.nil PP) mixed Tryz.func180 rfl (by kernel_rfl) (by kernel_rfl) (by kernel_rfl) (by kernel_rfl) ?_;unfold Tryz.f180
      simp only [↓wR,RA,simprocAttr,TF]
      refine bt (T:=[]) (aj.nil PP) mixed Tryz.func192 rfl (by kernel_rfl) (by kernel_rfl) (by kernel_rfl) (by kernel_rfl) ?_;unfold Tryz.f192
      simp only [↓wR,RA,simprocAttr,TF]
      refine di [0,1,7,8] (fun (i:Nat)=>[.vl false 1 (d.texts.map (aq.val false)),.sc (.func (.func 181) #[] #[]),.sc (.int .i64 d.texts.length),.sc (.int .i64 i)]) (fun _=>[some (.row [.sc (.int .i64 s.names),.sc (.int .i64 s.nums),.sc (.int .i64 s.size),.sc (.int .i64 s.texts),.sc (.int .i64 s.raw)] 0 2 214),some (.row [.vl false 1 (d.names.map (aw.val false)),.vl false 1 (d.nums.map (bg.val false)),.vl false 1 (d.texts.map (aq.val false)),.vl false 1 (d.raw.map (cj.val false))] 0 2 77)]) (fun i=>i≤d.texts.length∧(d.texts.any fun x=>decide (255<x.size))=((d.texts.drop i).any fun x=>decide (255<x.size))) (fun i=>d.texts.length - i) 0 ⟨Nat.zero_le _,rfl⟩ (by simp only [↓wR,RA,simprocAttr,TF]<;>rfl) (by simp only [↓wR,RA,simprocAttr,TF]<;>rfl) ?_
      rintro k ⟨hk,hK⟩
      simp only [↓wR,RA,simprocAttr,TF]
      rw [bm];refine ⟨fun h9=>?_,fun h9=>?_⟩
      ·obtain ⟨c,hc,hd1,hlt⟩:=dv (decide_eq_true h9)
       rw [hd1,List.any_cons] at hK
       simp only [↓wR,RA,simprocAttr,TF,h9,hc];repeat (simp (disch:=omega) only [ah,cb,cd,cg,cf];try simp only [↓wR,RA,simprocAttr,TF,h9,hc])
       refine bt (T:=[]) (aj.nil PP) mixed Tryz.func181 rfl (by kernel_rfl) (by kernel_rfl) (by kernel_rfl) (by kernel_rfl) ?_;unfold Tryz.f181
       simp only [↓wR,RA,simprocAttr,TF]
       rw [bm];refine ⟨fun h10=>?_,fun h10=>?_⟩
       ·simp only [↓wR,RA,simprocAttr,TF,h10]
        rw [hr,hK,decide_eq_true (show 0<d.texts.length by omega),decide_eq_true (show 255<c.size by omega)];rfl
       ·simp only [↓wR,RA,simprocAttr,TF,h10];repeat (simp (disch:=omega) only [ah,cb,cd,cg,cf];try simp only [↓wR,RA,simprocAttr,TF,h10])
        refine ⟨k+1,⟨hlt,?_⟩,by omega,by (first|rfl|trivial|omega|((try (simp (disch:=omega) only [ah]));(try (simp only [FB]));first|done|rfl|omega))⟩
        rw [hK,decide_eq_false (show ¬ 255<c.size by omega),Bool.false_or]
      ·rw [dz (decide_eq_false h9),List.any_nil] at hK
       simp only [↓wR,RA,simprocAttr,TF,h9]
       rw [hr,hK,decide_eq_true (show 0<d.texts.length by omega)];rfl
     ·simp only [↓wR,RA,simprocAttr,TF,h8]
      rw [hr,decide_eq_false (show ¬ 0<d.texts.length by omega)];rfl
theorem Vb (t:UInt16) : 0≤(jm t).size∧(jm t).size≤4:=by
 unfold jm
 repeat' split
 all_goals simp
noncomputable def Og (x:Shape × UInt16 × c0 × Unit):Option AV:=if (0≤x.1.size∧x.1.size≤4)∧dy x.2.2.1 then some ((r1 bn).E true (Ay x.1 x.2.1 x.2.2.1)) else none
set_option maxRecDepth 2000000 in
theorem ap5 (x:Shape × UInt16 × c0 × Unit) (r:AV) (h:Og x=some r):bc PP 160 ((aC u7 (aC da (aC bz a0))).E x) r:=by
 by_cases hc:(0≤x.1.size∧x.1.size≤4)∧dy x.2.2.1
 case neg=>simp only [Og,if_neg hc] at h;cases h
 simp only [Og,if_pos hc] at h
 cases h
 exact ba (aj.cons (ai asd) (aj.nil PP)) Tryz.func160 (by kernel_rfl) (by kernel_rfl) (by kernel_rfl) (Nat.le_of_ble_eq_true (by kernel_rfl)) (r1 bn) true (Ay x.1 x.2.1 x.2.2.1) (aA2 x.1 x.2.1 x.2.2.1 hc.1 hc.2)
noncomputable abbrev aEy:Nat × Bool × (List AV→M AV):=(160,true,cx (aC u7 (aC da (aC bz a0))) Og)
theorem amo {α:Type} {l:List (List α)} {i:Nat} {c:List α} (h:l[i]? = some c):(l.drop i).flatten=c++(l.drop (i+1)).flatten:=by rw [Kd h];rfl
theorem aBd {α:Type} {l:List (List α)} {c:List α} (h:c ∈ l):c.length≤l.flatten.length:=by
 induction l with
 |nil=>cases h
 |cons a l ih=>
  simp only [List.flatten_cons,List.length_append]
  rcases List.mem_cons.1 h with rfl|h
  ·omega
  ·have:=ih h;omega
theorem aru (l:List (List UInt8)) (hl:l.length≤16777216) (hf:l.flatten.length≤134217728):wl PP [] 0 (Tryz.f184.body.getD .skip) (dj PP Tryz.f184.results.toList (fun r st=>(r1 (ca cj)).get true st.h r=some l.flatten)) (b9 0 [(ca (ca cj)).val false l]) (bq []):=by
 unfold Tryz.f184
 rw [lu]
 simp only [↓wR,RA,simprocAttr,TF]
 refine di [0,3,9,10,11] (fun (x:Nat × Nat)=>[.vl false 1 (l.map ((ca cj).val false)),.sc (.int .i64 x.2),.vl false 1 (l.map ((ca cj).val false)),.sc (.int .i64 l.length),.sc (.int .i64 x.1)]) (fun _=>[]) (fun x=>x.1≤l.length∧x.2+(l.drop x.1).flatten.length=l.flatten.length) (fun x=>l.length - x.1) (0,0) ⟨Nat.zero_le _,by simp⟩ (by simp only [↓wR,RA,simprocAttr,TF]<;>rfl) (by simp only [↓wR,RA,simprocAttr,TF]<;>rfl) ?_
 rintro ⟨i,k⟩ ⟨hi,hk⟩
 simp only at hi hk
 simp only [↓wR,RA,simprocAttr,TF]
 rw [bm];refine ⟨fun h=>?_,fun h=>?_⟩
 ·obtain ⟨c,hc,hd1,hlt⟩:=dv (decide_eq_true h)
  rw [amo hc,List.length_append] at hk
  simp only [↓wR,RA,simprocAttr,TF,h,hc];repeat (simp (disch:=omega) only [ah,cb,cd,cg,cf];try simp only [↓wR,RA,simprocAttr,TF,h,hc])
  rw [bm];refine ⟨fun h1=>?_,fun h1=>?_⟩
  ·exfalso;omega
  ·simp only [↓wR,RA,simprocAttr,TF,h1];repeat (simp (disch:=omega) only [ah,cb,cd,cg,cf];try simp only [↓wR,RA,simprocAttr,TF,h1])
   exact ⟨(i+1,k+c.length),⟨hlt,by show k+c.length+(l.drop (i+1)).flatten.length=_;omega⟩,by simp;omega,by simp⟩
 ·rw [dz (decide_eq_false h)] at hk
  have hk:k=l.flatten.length:=by simpa using hk
  subst hk
  simp only [↓wR,RA,simprocAttr,TF,h]
  refine bt (T:=[]) (aj.nil PP) mixed Tryz.func193 rfl (by kernel_rfl) (by kernel_rfl) (by kernel_rfl) (by kernel_rfl) ?_;unfold Tryz.f193
  simp only [↓wR,RA,simprocAttr,TF]
  rw [bm];refine ⟨fun h1=>?_,fun h1=>?_⟩
  ·exfalso;omega
  simp only [↓wR,RA,simprocAttr,TF,h1];repeat (simp (disch:=omega) only [ah,cb,cd,cg,cf];try simp only [↓wR,RA,simprocAttr,TF,h1])
  rw [bm];refine ⟨fun h2=>?_,fun h2=>?_⟩
  ·have hpos : 0<l.flatten.length:=by omega
   simp only [↓wR,RA,simprocAttr,TF,h2,hpos];repeat (simp (disch:=omega) only [ah,cb,cd,cg,cf];try simp only [↓wR,RA,simprocAttr,TF,h2,hpos])
   refine di [25,26,27,6] (fun (x:Nat × Nat × List UInt8)=>[.vl false 1 (l.map ((ca cj).val false)),.sc (.int .i64 l.length),.sc (.int .i64 x.1),.sl 0 0 x.2.1 1]) (fun x=>[some (.row (x.2.2.map (cj.val false)) 0 0 5)]) (fun x=>x.1≤l.length∧(x.2.1=x.2.2.length∨x.2.1=0)∧x.2.2.take x.2.1++(l.drop x.1).flatten=l.flatten) (fun x=>l.length - x.1) (0,0,List.replicate l.flatten.length 0) ⟨Nat.zero_le _,.inr rfl,rfl⟩ (by simp only [↓wR,RA,simprocAttr,TF]<;>rfl) (by simp only [↓wR,RA,simprocAttr,TF]<;>rfl) ?_
   rintro ⟨k,m,r⟩ ⟨hk1,hk0,hk3⟩
   simp only at hk1 hk0 hk3
   have hk2:m≤r.length:=by omega
   simp only [↓wR,RA,simprocAttr,TF]
   rw [bm];refine ⟨fun h3=>?_,fun h3=>?_⟩
   ·obtain ⟨c,hc,hd1,hlt⟩:=dv (decide_eq_true h3)
    rw [amo hc] at hk3
    have hm:m+c.length≤134217728:=by
     have:=congrArg List.length hk3
     simp only [List.length_append,List.length_take] at this
     omega
    simp only [↓wR,RA,simprocAttr,TF,h3,hc,hk2];repeat (simp (disch:=omega) only [ah,cb,cd,cg,cf];try simp only [↓wR,RA,simprocAttr,TF,h3,hc,hk2])
    have hl1:(r.take m++c).length=m+c.length:=by simp [Nat.min_eq_left hk2]
    refine ⟨(k+1,m+c.length,r.take m++c),⟨hlt,.inl hl1.symm,?_⟩,by simp;omega,by simp,by simp⟩
    show (r.take m++c).take (m+c.length)++_=_
    rw [List.take_of_length_le (Nat.le_of_eq hl1),List.append_assoc]
    exact hk3
   ·rw [dz (decide_eq_false h3)] at hk3
    have hmr:m=r.length:=by
     have:=congrArg List.length hk3
     simp only [List.length_append,List.length_take,List.flatten_nil,List.length_nil] at this
     omega
    subst hmr
    have hr:r=l.flatten:=by simpa using hk3
    subst hr
    simp only [↓wR,RA,simprocAttr,TF,h3,hk2];repeat (simp (disch:=omega) only [ah,cb,cd,cg,cf];try simp only [↓wR,RA,simprocAttr,TF,h3,hk2])
  ·have hnil:l.flatten=[]:=List.eq_nil_of_length_eq_zero (by omega)
   simp only [↓wR,RA,simprocAttr,TF,h2];repeat (simp (disch:=omega) only [ah,cb,cd,cg,cf];try simp only [↓wR,RA,simprocAttr,TF,h2])
   refine di [25,26,27,6] (fun (x:Nat)=>[.vl false 1 (l.map ((ca cj).val false)),.sc (.int .i64 l.length),.sc (.int .i64 x),.sc (.slice none 0 0)]) (fun _=>[]) (fun x=>x≤l.length) (fun x=>l.length - x) 0 (Nat.zero_le _) (by simp only [↓wR,RA,simprocAttr,TF]<;>rfl) (by simp only [↓wR,RA,simprocAttr,TF]<;>rfl) ?_
   intro k hk1
   simp only [↓wR,RA,simprocAttr,TF]
   rw [bm];refine ⟨fun h3=>?_,fun h3=>?_⟩
   ·obtain ⟨c,hc,hd1,hlt⟩:=dv (decide_eq_true h3)
    have hc0:c=[]:=List.eq_nil_of_length_eq_zero (by have:=aBd (List.mem_of_getElem? hc);rw [hnil] at this;simpa using this)
    subst hc0
    simp only [↓wR,RA,simprocAttr,TF,h3,hc];repeat (simp (disch:=omega) only [ah,cb,cd,cg,cf];try simp only [↓wR,RA,simprocAttr,TF,h3,hc])
    refine ⟨k+1,hlt,?_⟩
    first|(refine ⟨by simp;omega,?_⟩;simp)|(simp;omega)
   ·simp only [↓wR,RA,simprocAttr,TF,h3];repeat (simp (disch:=omega) only [ah,cb,cd,cg,cf];try simp only [↓wR,RA,simprocAttr,TF,h3])
    rw [hnil]
noncomputable def Ch (x:List (List UInt8) × Unit):Option AV:=if x.1.length≤16777216∧x.1.flatten.length≤134217728 then some ((r1 (ca cj)).E true (x.1.flatten)) else none
set_option maxRecDepth 2000000 in
theorem agz (x:List (List UInt8) × Unit) (r:AV) (h:Ch x=some r):bc PP 184 ((aC (ca (ca cj)) a0).E x) r:=by
 by_cases hc:x.1.length≤16777216∧x.1.flatten.length≤134217728
 case neg=>simp only [Ch,if_neg hc] at h;cases h
 simp only [Ch,if_pos hc] at h
 cases h
 exact ba (aj.nil PP) Tryz.func184 (by kernel_rfl) (by kernel_rfl) (by kernel_rfl) (Nat.le_of_ble_eq_true (by kernel_rfl)) (r1 (ca cj)) true (x.1.flatten) (aru x.1 hc.1 hc.2)
noncomputable abbrev aAj:Nat × Bool × (List AV→M AV):=(184,true,cx (aC (ca (ca cj)) a0) Ch)
theorem ar0 (n:Name):(yz n).length≤bw n:=by
 unfold yz nameBytes
 split
 ·exact Nat.zero_le _
 ·have:=Mb n;rw [List.length_append];simp only [List.length_cons,List.length_nil];omega
noncomputable def Tl (t:UInt16) (n:UInt32):List UInt8:=(Hh n).drop (4 - (jm t).size).toNat
def xd (t:UInt16):Nat→List ByteArray→List UInt8
 |_,[]=>[]
 |i,x::r=>(if (t.toNat:Int)=16∨i=0 then [UInt8.ofNat x.size] else [])++x.data.toList++xd t (i+1) r
noncomputable def Ek (t:UInt16) (d:c0):List UInt8:=d.nums.flatMap (Tl t)
def Dx (d:c0):List UInt8:=d.names.flatMap yz
def Ah (t:UInt16) (d:c0):List UInt8:=xd t 0 d.texts
noncomputable def Jk (t:UInt16) (d:c0):List UInt8:=if (t.toNat:Int)=6 then Dx d++Ek t d else Ek t d++(Dx d++(Ah t d++d.raw))
theorem Pa (n):(Hh n).length=4:=rfl
theorem ajz {α:Type} (f : α→List UInt8) (μ : α→Nat) (h:∀ x,(f x).length ≤ μ x) (l:List α):(l.flatMap f).length≤fp μ l:=by
 induction l with
 |nil=>simp
 |cons a l ih=>have:=h a;simp only [List.flatMap_cons,List.length_append,fp,List.foldr_cons] at ih ⊢;omega
theorem apb (t:UInt16) (l:List ByteArray):∀ i,(xd t i l).length≤fp ByteArray.size l:=by
 induction l with
 |nil=>intro i;simp [xd]
 |cons a l ih=>
  intro i
  have:=ih (i+1)
  have ha:a.data.size=a.size:=rfl
  simp only [xd,List.length_append,fp,List.foldr_cons,Array.length_toList] at this ⊢
  split<;>simp<;>omega
theorem at4 (t d):(Ek t d).length≤4 * d.nums.length:=by
 unfold Ek
 induction d.nums with
 |nil=>simp
 |cons a l ih=>
  have:(Tl t a).length≤4:=by unfold Tl;rw [List.length_drop,Pa];omega
  simp only [List.flatMap_cons,List.length_append,List.length_cons];omega
theorem dy.written {d:c0} (h:dy d) (t):(Ek t d).length≤67108864∧(Dx d).length≤16777216∧(Ah t d).length≤16777216:=by
 have h1:=at4 t d
 have h2:(Dx d).length≤fp bw d.names:=ajz yz bw ar0 d.names
 have h3:(Ah t d).length≤fp ByteArray.size d.texts:=apb t d.texts 0
 unfold dy v8 at h
 omega
theorem Vj {α:Type} {l:List α} {i:Nat} {c : α} (f : α→List UInt8) (h:l.drop i=c::l.drop (i+1)):(l.drop i).flatMap f=f c++(l.drop (i+1)).flatMap f:=by rw [h];rfl
theorem Xz (c):(Hh c).take 4=Hh c:=rfl
theorem ami (t) (c):(Hh c).drop (4 - (jm t).size).toNat=Tl t c:=rfl
theorem aqx (t:UInt16) {l:List ByteArray} {i:Nat} {c:ByteArray} (h:l.drop i=c::l.drop (i+1)):xd t i (l.drop i)=(if (t.toNat:Int)=16∨i=0 then [UInt8.ofNat c.size] else [])++c.data.toList++xd t (i+1) (l.drop (i+1)):=by rw [h];rfl
theorem avc (t:UInt16) (d:c0) (hd:dy d):wl PP [Yz,aD9,anw,aAj] 0 (Tryz.f161.body.getD .skip) (dj PP Tryz.f161.results.toList (fun r st=>(r1 (ca cj)).get true st.h r=some (Jk t d))) (b9 0 [da.val false t,bz.val false d]) (bq []):=by
 have hl:=hd.lens
 have hk:=hd.written t
 have hs:=Vb t
 unfold Tryz.f161
 simp only [ku,dm]
 simp only [↓wR,RA,simprocAttr,TF,Fo,Fs]
 refine ji [0,3,6,7,8,21,22,23,5] (fun (x:Nat × List UInt8)=>[.sc (.int .u16 t.toNat),.ptr 0 0,.sc (.slice none 0 0),.sc (.slice none 0 0),.ptr 1 0,.vl false 1 (d.nums.map (bg.val false)),.sc (.int .i64 (d.nums.length)),.sc (.int .i64 (x.1)),.sl 2 0 x.2.length 1]) (fun x=>[some (.row [.vl false 1 (d.names.map (aw.val false)),.vl false 1 (d.nums.map (bg.val false)),.vl false 1 (d.texts.map (aq.val false)),.vl false 1 (d.raw.map (cj.val false))] 0 2 77),some (.row [.sc (.int .i64 (jm t).names),.sc (.int .i64 (jm t).nums),.sc (.int .i64 (jm t).size),.sc (.int .i64 (jm t).texts),.sc (.int .i64 (jm t).raw)] 0 2 214),some (.row (x.2.map (cj.val false)) 0 0 5)]) (fun x=>x.1≤d.nums.length∧x.2++(d.nums.drop x.1).flatMap (Tl t)=Ek t d) (fun x=>d.nums.length - x.1) (0,[]) ⟨Nat.zero_le _,rfl⟩ (by simp only [↓wR,RA,simprocAttr,TF];(refine jt.lax [] (by first|exact Nat.le_of_ble_eq_true rfl|(simp [cw];omega)) ?_ ?_<;>repeat' first|exact fc.nil|exact c7.nil|exact gu.same _|exact gu.nil _ _ _|exact gu.se _ _|exact c7.refl _ _|apply fc.cons|apply c7.ghost|apply c7.same|apply c7.row)) ?_
 rintro ⟨i,x⟩ ⟨hi,hx⟩
 simp only at hi hx
 simp only [↓wR,RA,simprocAttr,TF]
 rw [bm];refine ⟨fun h=>?_,fun h=>?_⟩
 ·obtain ⟨c,hc,hd1,hlt⟩:=dv (decide_eq_true h)
  rw [Vj _ hd1] at hx
  have hxl:x.length+(Tl t c).length≤(Ek t d).length:=by rw [← hx];simp
  simp only [↓wR,RA,simprocAttr,TF,h,hc,Qq,Pa,Xz,ami];repeat (simp (disch:=omega) only [ah,cb,cd,cg,cf];try simp only [↓wR,RA,simprocAttr,TF,h,hc,Qq,Pa,Xz,ami])
  exact ⟨(i+1,x++Tl t c),⟨hlt,by rw [List.append_assoc];exact hx⟩,by simp;omega,by (first|rfl|trivial|omega|((try (simp (disch:=omega) only [ah]));(try (simp only [FB]));first|done|rfl|omega)),by (first|rfl|trivial|omega|((try (simp (disch:=omega) only [ah]));(try (simp only [FB]));first|done|rfl|omega))⟩
 rw [dz (decide_eq_false h)] at hx
 obtain rfl:x=Ek t d:=by simpa using hx
 clear hx
 simp only [↓wR,RA,simprocAttr,TF,h]
 obtain ⟨nu,hnu⟩:∃ nu,Ek t d=nu:=⟨_,rfl⟩
 rw [hnu] at hk ⊢
 refine ji [0,3,7,38,39,40,5,6] (fun (x:Nat × List UInt8)=>[.sc (.int .u16 t.toNat),.ptr 0 0,.sc (.slice none 0 0),.vl false 1 (d.names.map (aw.val false)),.sc (.int .i64 (d.names.length)),.sc (.int .i64 (x.1)),.sl 1 0 nu.length 1,.sl 2 0 x.2.length 1]) (fun x=>[some (.row [.vl false 1 (d.names.map (aw.val false)),.vl false 1 (d.nums.map (bg.val false)),.vl false 1 (d.texts.map (aq.val false)),.vl false 1 (d.raw.map (cj.val false))] 0 2 77),some (.row (nu.map (cj.val false)) 0 0 5),some (.row (x.2.map (cj.val false)) 0 0 5)]) (fun x=>x.1≤d.names.length∧x.2++(d.names.drop x.1).flatMap yz=Dx d) (fun x=>d.names.length - x.1) (0,[]) ⟨Nat.zero_le _,rfl⟩ (by simp only [↓wR,RA,simprocAttr,TF];(refine jt.lax [] (by first|exact Nat.le_of_ble_eq_true rfl|(simp [cw];omega)) ?_ ?_<;>repeat' first|exact fc.nil|exact c7.nil|exact gu.same _|exact gu.nil _ _ _|exact gu.se _ _|exact c7.refl _ _|apply fc.cons|apply c7.ghost|apply c7.same|apply c7.row)) ?_
 clear h
 rintro ⟨i,x⟩ ⟨hi,hx⟩
 simp only at hi hx
 simp only [↓wR,RA,simprocAttr,TF]
 rw [bm];refine ⟨fun h=>?_,fun h=>?_⟩
 ·obtain ⟨c,hc,hd1,hlt⟩:=dv (decide_eq_true h)
  rw [Vj _ hd1] at hx
  have hxl:x.length+(yz c).length≤(Dx d).length:=by rw [← hx];simp
  simp only [↓wR,RA,simprocAttr,TF,h,hc,wm,hd.name c (List.mem_of_getElem? hc)];repeat (simp (disch:=omega) only [ah,cb,cd,cg,cf];try simp only [↓wR,RA,simprocAttr,TF,h,hc,wm,hd.name c (List.mem_of_getElem? hc)])
  exact ⟨(i+1,x++yz c),⟨hlt,by rw [List.append_assoc];exact hx⟩,by simp;omega,by (first|rfl|trivial|omega|((try (simp (disch:=omega) only [ah]));(try (simp only [FB]));first|done|rfl|omega)),by (first|rfl|trivial|omega|((try (simp (disch:=omega) only [ah]));(try (simp only [FB]));first|done|rfl|omega))⟩
 rw [dz (decide_eq_false h)] at hx
 obtain rfl:x=Dx d:=by simpa using hx
 clear hx
 simp only [↓wR,RA,simprocAttr,TF,h]
 obtain ⟨na,hna⟩:∃ na,Dx d=na:=⟨_,rfl⟩
 rw [hna] at hk ⊢
 refine ji [0,3,54,55,56,5,6,7] (fun (x:Nat × List UInt8)=>[.sc (.int .u16 t.toNat),.ptr 0 0,.vl false 1 (d.texts.map (aq.val false)),.sc (.int .i64 (d.texts.length)),.sc (.int .i64 (x.1)),.sl 1 0 nu.length 1,.sl 2 0 na.length 1,.sl 3 0 x.2.length 1]) (fun x=>[some (.row [.vl false 1 (d.names.map (aw.val false)),.vl false 1 (d.nums.map (bg.val false)),.vl false 1 (d.texts.map (aq.val false)),.vl false 1 (d.raw.map (cj.val false))] 0 2 77),some (.row (nu.map (cj.val false)) 0 0 5),some (.row (na.map (cj.val false)) 0 0 5),some (.row (x.2.map (cj.val false)) 0 0 5)]) (fun x=>x.1≤d.texts.length∧x.2++xd t x.1 (d.texts.drop x.1)=Ah t d) (fun x=>d.texts.length - x.1) (0,[]) ⟨Nat.zero_le _,rfl⟩ (by simp only [↓wR,RA,simprocAttr,TF];(refine jt.lax [] (by first|exact Nat.le_of_ble_eq_true rfl|(simp [cw];omega)) ?_ ?_<;>repeat' first|exact fc.nil|exact c7.nil|exact gu.same _|exact gu.nil _ _ _|exact gu.se _ _|exact c7.refl _ _|apply fc.cons|apply c7.ghost|apply c7.same|apply c7.row)) ?_
 clear h
 rintro ⟨i,x⟩ ⟨hi,hx⟩
 simp only at hi hx
 simp only [↓wR,RA,simprocAttr,TF]
 rw [bm];refine ⟨fun h=>?_,fun h=>?_⟩
 ·obtain ⟨c,hc,hd1,hlt⟩:=dv (decide_eq_true h)
  rw [aqx _ hd1] at hx
  have hxl:x.length+((if (t.toNat:Int)=16∨i=0 then [UInt8.ofNat c.size] else []).length+c.size)≤(Ah t d).length:=by rw [← hx];simp
  have hcs:c.data.toList.length=c.size:=by simp
  simp only [↓wR,RA,simprocAttr,TF,h,hc];repeat (simp (disch:=omega) only [ah,cb,cd,cg,cf];try simp only [↓wR,RA,simprocAttr,TF,h,hc])
  have fin:∀ b:List UInt8,x++(b++c.data.toList++xd t (i+1) (d.texts.drop (i+1)))=Ah t d→x++b++c.data.toList++xd t (i+1) (d.texts.drop (i+1))=Ah t d:=fun b hb=>by rw [← hb];simp
  rw [c9];refine ⟨fun ⟨h16,e16⟩=>?_,fun ⟨h16,e16⟩=>?_⟩
  ·rw [if_pos (.inl e16)] at hx hxl
   simp only [List.length_cons,List.length_nil] at hxl
   simp only [↓wR,RA,simprocAttr,TF,h16];repeat (simp (disch:=omega) only [ah,cb,cd,cg,cf];try simp only [↓wR,RA,simprocAttr,TF,h16])
   exact ⟨(i+1,x++[UInt8.ofNat c.size]++c.data.toList),⟨hlt,fin _ hx⟩,by simp;omega,by (first|rfl|trivial|omega|((try (simp (disch:=omega) only [ah]));(try (simp only [FB]));first|done|rfl|omega)),by (first|rfl|trivial|omega|((try (simp (disch:=omega) only [ah]));(try (simp only [FB]));first|done|rfl|omega))⟩
  ·simp only [↓wR,RA,simprocAttr,TF,h16];repeat (simp (disch:=omega) only [ah,cb,cd,cg,cf];try simp only [↓wR,RA,simprocAttr,TF,h16])
   rw [c9];refine ⟨fun ⟨h0,e0⟩=>?_,fun ⟨h0,e0⟩=>?_⟩
   ·rw [if_pos (.inr (by omega))] at hx hxl
    simp only [List.length_cons,List.length_nil] at hxl
    simp only [↓wR,RA,simprocAttr,TF,h0];repeat (simp (disch:=omega) only [ah,cb,cd,cg,cf];try simp only [↓wR,RA,simprocAttr,TF,h0])
    exact ⟨(i+1,x++[UInt8.ofNat c.size]++c.data.toList),⟨hlt,fin _ hx⟩,by simp;omega,by (first|rfl|trivial|omega|((try (simp (disch:=omega) only [ah]));(try (simp only [FB]));first|done|rfl|omega)),by (first|rfl|trivial|omega|((try (simp (disch:=omega) only [ah]));(try (simp only [FB]));first|done|rfl|omega))⟩
   ·rw [if_neg (by omega)] at hx hxl
    simp only [List.length_nil] at hxl
    simp only [↓wR,RA,simprocAttr,TF,h0];repeat (simp (disch:=omega) only [ah,cb,cd,cg,cf];try simp only [↓wR,RA,simprocAttr,TF,h0])
    exact ⟨(i+1,x++c.data.toList),⟨hlt,by have:=fin _ hx;simpa using this⟩,by simp;omega,by (first|rfl|trivial|omega|((try (simp (disch:=omega) only [ah]));(try (simp only [FB]));first|done|rfl|omega)),by (first|rfl|trivial|omega|((try (simp (disch:=omega) only [ah]));(try (simp only [FB]));first|done|rfl|omega))⟩
 rw [dz (decide_eq_false h)] at hx
 obtain rfl:x=Ah t d:=by simpa [xd] using hx
 clear hx
 simp only [↓wR,RA,simprocAttr,TF,h];repeat (simp (disch:=omega) only [ah,cb,cd,cg,cf];try simp only [↓wR,RA,simprocAttr,TF,h])
 unfold Jk
 rw [hnu,hna]
 rw [c9];refine ⟨fun ⟨h6,e6⟩=>?_,fun ⟨h6,e6⟩=>?_⟩
 ·rw [if_pos e6]
  simp only [↓wR,RA,simprocAttr,TF,h6];repeat (simp (disch:=omega) only [ah,cb,cd,cg,cf];try simp only [↓wR,RA,simprocAttr,TF,h6])
 ·rw [if_neg e6]
  have hcat:nu.length+(na.length+((Ah t d).length+d.raw.length))≤134217728:=by omega
  simp only [↓wR,RA,simprocAttr,TF,h6,Ch,hcat];repeat (simp (disch:=omega) only [ah,cb,cd,cg,cf];try simp only [↓wR,RA,simprocAttr,TF,h6,Ch,hcat])
  rw [← List.map_append,← List.map_append,← List.map_append]
  exact rtT (ca cj) _ _
noncomputable def wj (x:UInt16 × c0 × Unit):Option AV:=if dy x.2.1 then some ((r1 (ca cj)).E true (Jk x.1 x.2.1)) else none
set_option maxRecDepth 2000000 in
theorem Ht (x:UInt16 × c0 × Unit) (r:AV) (h:wj x=some r):bc PP 161 ((aC da (aC bz a0)).E x) r:=by
 by_cases hc:dy x.2.1
 case neg=>simp only [wj,if_neg hc] at h;cases h
 simp only [wj,if_pos hc] at h
 cases h
 exact ba (aj.cons (ai Gf) (aj.cons (ai aj7) (aj.cons (ai X4) (aj.cons (ai agz) (aj.nil PP))))) Tryz.func161 (by kernel_rfl) (by kernel_rfl) (by kernel_rfl) (Nat.le_of_ble_eq_true (by kernel_rfl)) (r1 (ca cj)) true (Jk x.1 x.2.1) (avc x.1 x.2.1 hc)
noncomputable abbrev X0:Nat × Bool × (List AV→M AV):=(161,true,cx (aC da (aC bz a0)) wj)
theorem akb (d:c0) (hd:dy d):wl PP [ajh,ai7,alk,qf] 0 (Tryz.f76.body.getD .skip) (dj PP Tryz.f76.results.toList (fun r st=>(r1 bz).get true st.h r=some d)) (b9 0 [bz.val false d]) (bq []):=by
 have hl:=hd.lens
 have l2:=hl.2.1
 have l3:=hl.2.2.1
 have l4:=hl.2.2.2
 unfold Tryz.f76
 simp only [ku,dm]
 simp only [↓wR,RA,simprocAttr,TF]
 refine ⟨by kernel_rfl,.inl ?_⟩
 simp only [↓wR,RA,simprocAttr,TF,z3,zx,Bo,l2,l3,l4]
 refine ⟨by kernel_rfl,?_⟩
 refine ji [2,17,18,19,3] (fun (x:List Name)=>[.ptr 0 0,.vl false 1 (d.names.map (aw.val false)),.sc (.int .i64 (d.names.length)),.sc (.int .i64 (x.length)),.ptr 1 0]) (fun x=>[some (.row [.sc (.slice none 0 0),.sc (.slice none 0 0),.sc (.slice none 0 0),.sc (.slice none 0 0)] 0 2 77),some (.row [.sl 2 0 x.length 1,.vl true 1 (d.nums.map (bg.val false)),.vl true 1 (d.texts.map (aq.val false)),.vl true 1 (d.raw.map (cj.val false))] 0 2 77),some (.row (x.map (aw.val true)) 0 0 23)]) (fun x=>x.length≤d.names.length∧x++d.names.drop x.length=d.names) (fun x=>d.names.length - x.length) [] ⟨Nat.zero_le _,rfl⟩ (by simp only [↓wR,RA,simprocAttr,TF];(refine jt.lax [] (by first|exact Nat.le_of_ble_eq_true rfl|(simp [cw];omega)) ?_ ?_<;>repeat' first|exact fc.nil|exact c7.nil|exact gu.same _|exact gu.nil _ _ _|exact gu.se _ _|exact c7.refl _ _|apply fc.cons|apply c7.ghost|apply c7.same|apply c7.row)) ?_
 rintro x ⟨hi,hx⟩
 simp only [↓wR,RA,simprocAttr,TF]
 rw [bm];refine ⟨fun h=>?_,fun h=>?_⟩
 ·obtain ⟨c,hc,hd1,hlt⟩:=dv (decide_eq_true h)
  rw [hd1] at hx
  have hlim:(x.length+1) * 24≤140737488355328:=by omega
  simp only [↓wR,RA,simprocAttr,TF,h,hc]
  refine ⟨by kernel_rfl,.inl ?_⟩
  simp only [↓wR,RA,simprocAttr,TF,j8,hd.name c (List.mem_of_getElem? hc),hlim]
  refine ⟨by kernel_rfl,?_⟩
  exact ⟨x++[c],⟨by simp;omega,by simpa using hx⟩,by simp;omega,by (first|rfl|trivial|omega|((try (simp (disch:=omega) only [ah]));(try (simp only [FB]));first|done|rfl|omega)),by (first|rfl|trivial|omega|((try (simp (disch:=omega) only [ah]));(try (simp only [FB]));first|done|rfl|omega))⟩
 ·rw [dz (decide_eq_false h)] at hx
  rw [List.append_nil] at hx
  subst hx
  simp only [↓wR,RA,simprocAttr,TF,h]
noncomputable def Db (x:c0 × Unit):Option AV:=if dy x.1 then some ((r1 bz).E true (x.1)) else none
set_option maxRecDepth 2000000 in
theorem ack (x:c0 × Unit) (r:AV) (h:Db x=some r):bc PP 76 ((aC bz a0).E x) r:=by
 by_cases hc:dy x.1
 case neg=>simp only [Db,if_neg hc] at h;cases h
 simp only [Db,if_pos hc] at h
 cases h
 exact ba (aj.cons (ai Mj) (aj.cons (ai Me) (aj.cons (ai Nr) (aj.cons (ai ky) (aj.nil PP))))) Tryz.func76 (by kernel_rfl) (by kernel_rfl) (by kernel_rfl) (Nat.le_of_ble_eq_true (by kernel_rfl)) (r1 bz) true (x.1) (akb x.1 hc)
noncomputable abbrev aw4:Nat × Bool × (List AV→M AV):=(76,true,cx (aC bz a0) Db)
def sd {α:Type} (f : α → α) (l:List α) (i:Nat):List α:=(l.take i).map f++l.drop i
theorem aoe {α:Type} (f : α → α) (l:List α) (i:Nat):(sd f l i).length=l.length:=by simp [sd];omega
theorem ao4 {α:Type} (f : α → α) {l:List α} {i:Nat} {c : α} (h:l[i]? = some c):(sd f l i)[i]? = some c:=by
 obtain ⟨hi,rfl⟩:=List.getElem?_eq_some_iff.1 h
 have hl:((l.take i).map f).length=i:=by simp;omega
 rw [sd,List.getElem?_append_right (by omega),hl,Nat.sub_self,List.getElem?_drop];simp [h]
theorem aqd {α:Type} (f : α → α) {l:List α} {i:Nat} {c : α} (h:l[i]? = some c):(sd f l i).take i++[f c]++(sd f l i).drop (i+1)=sd f l (i+1):=by
 obtain ⟨hi,rfl⟩:=List.getElem?_eq_some_iff.1 h
 have h1:((l.take i).map f).length=i:=by simp;omega
 have h2:(sd f l i).take i=(l.take i).map f:=by rw [sd,List.take_append_of_le_length (by omega),List.take_of_length_le (by omega)]
 have h3:(sd f l i).drop (i+1)=l.drop (i+1):=by
  rw [sd,List.drop_append,List.drop_eq_nil_of_le (by omega),h1]
  simp
 rw [h2,h3,sd,List.take_succ_eq_append_getElem hi,List.map_append]
 rfl
theorem aoc {α:Type} (f : α → α) (l:List α):sd f l l.length=l.map f:=by simp [sd]
noncomputable def wz (t:UInt16) (d:c0):c0:=if 0<(jm t).names then { d with names:=d.names.map g9 } else d
theorem ajv (t:UInt16) (d:c0) (hd:dy d):wl PP [Yz,avq] 0 (Tryz.f176.body.getD .skip) (dj PP Tryz.f176.results.toList (fun r st=>(r1 bz).get true st.h r=some (wz t d))) (b9 0 [da.val false t,bz.val false d]) (bq []):=by
 have hl:=hd.lens
 have l2:=hl.2.1
 have l3:=hl.2.2.1
 have l4:=hl.2.2.2
 unfold Tryz.f176
 simp only [ku,dm]
 simp only [↓wR,RA,simprocAttr,TF]
 refine bt (T:=[ajh,ai7,alk,qf]) (aj.cons (ai Mj) (aj.cons (ai Me) (aj.cons (ai Nr) (aj.cons (ai ky) (aj.nil PP))))) mixed Tryz.func76 rfl (by kernel_rfl) (by kernel_rfl) (by kernel_rfl) (by kernel_rfl) ?_;unfold Tryz.f76
 simp only [↓wR,RA,simprocAttr,TF]
 refine ⟨by kernel_rfl,.inl ?_⟩
 simp only [↓wR,RA,simprocAttr,TF,z3,zx,Bo,l2,l3,l4]
 refine ⟨by kernel_rfl,?_⟩
 refine ji [2,17,18,19,3] (fun (x:List Name)=>[.ptr 2 0,.vl false 1 (d.names.map (aw.val false)),.sc (.int .i64 (d.names.length)),.sc (.int .i64 (x.length)),.ptr 3 0]) (fun x=>[some (.row [.vl false 1 (d.names.map (aw.val false)),.vl false 1 (d.nums.map (bg.val false)),.vl false 1 (d.texts.map (aq.val false)),.vl false 1 (d.raw.map (cj.val false))] 0 2 77),some (.row [.sc (.slice none 0 0),.sc (.slice none 0 0),.sc (.slice none 0 0),.sc (.slice none 0 0)] 0 2 77),some (.row [.sc (.slice none 0 0),.sc (.slice none 0 0),.sc (.slice none 0 0),.sc (.slice none 0 0)] 0 2 77),some (.row [.sl 4 0 x.length 1,.vl true 1 (d.nums.map (bg.val false)),.vl true 1 (d.texts.map (aq.val false)),.vl true 1 (d.raw.map (cj.val false))] 0 2 77),some (.row (x.map (aw.val true)) 0 0 23)]) (fun x=>x.length≤d.names.length∧x++d.names.drop x.length=d.names) (fun x=>d.names.length - x.length) [] ⟨Nat.zero_le _,rfl⟩ (by simp only [↓wR,RA,simprocAttr,TF];(refine jt.lax [] (by first|exact Nat.le_of_ble_eq_true rfl|(simp [cw];omega)) ?_ ?_<;>repeat' first|exact fc.nil|exact c7.nil|exact gu.same _|exact gu.nil _ _ _|exact gu.se _ _|exact c7.refl _ _|apply fc.cons|apply c7.ghost|apply c7.same|apply c7.row)) ?_
 rintro x ⟨hi,hx⟩
 simp only [↓wR,RA,simprocAttr,TF]
 rw [bm];refine ⟨fun h=>?_,fun h=>?_⟩
 ·obtain ⟨c,hc,hd1,hlt⟩:=dv (decide_eq_true h)
  rw [hd1] at hx
  have hlim:(x.length+1) * 24≤140737488355328:=by omega
  simp only [↓wR,RA,simprocAttr,TF,h,hc]
  refine ⟨by kernel_rfl,.inl ?_⟩
  simp only [↓wR,RA,simprocAttr,TF,j8,hd.name c (List.mem_of_getElem? hc),hlim]
  refine ⟨by kernel_rfl,?_⟩
  exact ⟨x++[c],⟨by simp;omega,by simpa using hx⟩,by simp;omega,by (first|rfl|trivial|omega|((try (simp (disch:=omega) only [ah]));(try (simp only [FB]));first|done|rfl|omega)),by (first|rfl|trivial|omega|((try (simp (disch:=omega) only [ah]));(try (simp only [FB]));first|done|rfl|omega))⟩
 rw [dz (decide_eq_false h)] at hx
 rw [List.append_nil] at hx
 subst hx
 simp only [↓wR,RA,simprocAttr,TF,h,Fo,Fs]
 unfold wz
 clear hi h
 rw [bm];refine ⟨fun h0=>?_,fun h0=>?_⟩
 ·rw [if_pos h0]
  simp only [↓wR,RA,simprocAttr,TF,h0]
  refine di [4,5,15,16,17] (fun (i:Nat)=>[.ptr 0 0,.ptr 1 0,.sl 2 0 d.names.length 1,.sc (.int .i64 (d.names.length)),.sc (.int .i64 (i))]) (fun i=>[some (.row [.sc (.slice none 0 0),.sc (.slice none 0 0),.sc (.slice none 0 0),.sc (.slice none 0 0)] 0 2 77),some (.row [.sl 2 0 d.names.length 1,.vl true 1 (d.nums.map (bg.val false)),.vl true 1 (d.texts.map (aq.val false)),.vl true 1 (d.raw.map (cj.val false))] 0 2 77),some (.row ((sd g9 d.names i).map (aw.val true)) 0 0 23)]) (fun i=>i≤d.names.length) (fun i=>d.names.length - i) 0 (Nat.zero_le _) (by simp only [↓wR,RA,simprocAttr,TF]<;>rfl) (by simp only [↓wR,RA,simprocAttr,TF]<;>rfl) ?_
  intro i hi
  simp only [↓wR,RA,simprocAttr,TF]
  rw [bm];refine ⟨fun h=>?_,fun h=>?_⟩
  ·obtain ⟨c,hc,hd1,hlt⟩:=dv (decide_eq_true h)
   have hs:=ao4 g9 hc
   have hlen:=aoe g9 d.names i
   have hlt':i+1≤d.names.length:=hlt
   simp only [↓wR,RA,simprocAttr,TF,h,hs,hlt]
   refine ⟨by kernel_rfl,.inl ?_⟩
   simp only [↓wR,RA,simprocAttr,TF,h,hlt,hlt',hlen,Da,hd.name c (List.mem_of_getElem? hc)]
   refine ⟨by kernel_rfl,i+1,hlt,by omega,by (first|rfl|trivial|omega|((try (simp (disch:=omega) only [ah]));(try (simp only [FB]));first|done|rfl|omega)),?_⟩
   rw [← aqd g9 hc];simp only [List.map_append,List.map_cons,List.map_nil]
  ·have hin:i=d.names.length:=by omega
   subst hin
   rw [aoc]
   have hml:(d.names.map g9).length=d.names.length:=List.length_map _
   generalize d.names.map g9=m at hml ⊢
   simp only [↓wR,RA,simprocAttr,TF,h,hml]
   rfl
 ·rw [if_neg h0]
  simp only [↓wR,RA,simprocAttr,TF,h0]
noncomputable def Dc (x:UInt16 × c0 × Unit):Option AV:=if dy x.2.1 then some ((r1 bz).E true (wz x.1 x.2.1)) else none
set_option maxRecDepth 2000000 in
theorem acx (x:UInt16 × c0 × Unit) (r:AV) (h:Dc x=some r):bc PP 176 ((aC da (aC bz a0)).E x) r:=by
 by_cases hc:dy x.2.1
 case neg=>simp only [Dc,if_neg hc] at h;cases h
 simp only [Dc,if_pos hc] at h
 cases h
 exact ba (aj.cons (ai Gf) (aj.cons (ai acp) (aj.nil PP))) Tryz.func176 (by kernel_rfl) (by kernel_rfl) (by kernel_rfl) (Nat.le_of_ble_eq_true (by kernel_rfl)) (r1 bz) true (wz x.1 x.2.1) (ajv x.1 x.2.1 hc)
noncomputable abbrev ax1:Nat × Bool × (List AV→M AV):=(176,true,cx (aC da (aC bz a0)) Dc)
def vg:List Name→Int
 | []=>0
 |n::r=>if dt n≠0 then dt n else vg r
noncomputable def gj (t:UInt16) (d:c0):Int:=
 if I3 t=true then 6 else if Ay (jm t) t d=false then 7 else if vg d.names≠0 then vg d.names else if 65535<(Jk t d).length then 3 else 0
theorem akg {l:List Name} {i:Nat} {c:Name} (h:l.drop i=c::l.drop (i+1)):vg (l.drop i)=if dt c≠0 then dt c else vg (l.drop (i+1)):=by rw [h];rfl
theorem ae3 (t:UInt16) (d:c0) (hd:dy d):wl PP [aDm,Yz,aEy,en,X0] 0 (Tryz.f141.body.getD .skip) (dj PP Tryz.f141.results.toList (fun r st=>(r1 (ay .i64)).get true st.h r=some (gj t d))) (b9 0 [da.val false t,bz.val false d]) (bq []):=by
 have hs:=Vb t
 have hl:=hd.lens
 unfold Tryz.f141
 simp only [ku,dm]
 simp only [↓wR,RA,simprocAttr,TF,Yr]
 unfold gj
 rw [br];refine ⟨fun hb=>?_,fun hb=>?_⟩
 ·rw [if_pos hb]
  simp only [↓wR,RA,simprocAttr,TF,hb]
 rw [if_neg (by rw [hb];decide)]
 simp only [↓wR,RA,simprocAttr,TF,hb]
 refine ⟨by kernel_rfl,.inl ?_⟩
 simp only [↓wR,RA,simprocAttr,TF,Fo,Og,hs,hd]
 refine ⟨by kernel_rfl,?_⟩
 rw [br];refine ⟨fun hf=>?_,fun hf=>?_⟩
 ·rw [if_pos (by simpa using hf)]
  simp only [↓wR,RA,simprocAttr,TF,hf]
 have hf':Ay (jm t) t d=true:=by simpa using hf
 rw [if_neg (by rw [hf'];decide)]
 simp only [↓wR,RA,simprocAttr,TF,hf]
 refine di [0,3,17,18,19] (fun (i:Nat)=>[.sc (.int .u16 t.toNat),.ptr 0 0,.vl false 1 (d.names.map (aw.val false)),.sc (.int .i64 (d.names.length)),.sc (.int .i64 (i))]) (fun _=>[some (.row [.vl false 1 (d.names.map (aw.val false)),.vl false 1 (d.nums.map (bg.val false)),.vl false 1 (d.texts.map (aq.val false)),.vl false 1 (d.raw.map (cj.val false))] 0 2 77)]) (fun i=>i≤d.names.length∧vg d.names=vg (d.names.drop i)) (fun i=>d.names.length - i) 0 ⟨Nat.zero_le _,rfl⟩ (by simp only [↓wR,RA,simprocAttr,TF]<;>rfl) (by simp only [↓wR,RA,simprocAttr,TF]<;>rfl) ?_
 rintro i ⟨hi,hx⟩
 simp only [↓wR,RA,simprocAttr,TF]
 rw [bm];refine ⟨fun h=>?_,fun h=>?_⟩
 ·obtain ⟨c,hc,hd1,hlt⟩:=dv (decide_eq_true h)
  rw [akg hd1] at hx
  simp only [↓wR,RA,simprocAttr,TF,h,hc,mz,(hd.name c (List.mem_of_getElem? hc)).fit]
  rw [br];refine ⟨fun h1=>?_,fun h1=>?_⟩
  ·have he:dt c≠0:=by simpa using h1
   rw [if_pos he] at hx
   rw [if_pos (by rw [hx];exact he),hx]
   simp only [↓wR,RA,simprocAttr,TF,h1]
  ·have he:dt c=0:=by simpa using h1
   rw [if_neg (by omega)] at hx
   simp only [↓wR,RA,simprocAttr,TF,h1];repeat (simp (disch:=omega) only [ah,cb,cd,cg,cf];try simp only [↓wR,RA,simprocAttr,TF,h1])
   exact ⟨i+1,⟨hlt,hx⟩,by omega,by (first|rfl|trivial|omega|((try (simp (disch:=omega) only [ah]));(try (simp only [FB]));first|done|rfl|omega))⟩
 rw [dz (decide_eq_false h)] at hx
 rw [if_neg (by rw [hx];decide)]
 simp only [↓wR,RA,simprocAttr,TF,h,wj,hd]
 rw [bm];refine ⟨fun h2=>?_,fun h2=>?_⟩
 ·rw [if_pos (by omega)]
  simp only [↓wR,RA,simprocAttr,TF,h2]
 ·rw [if_neg (by omega)]
  simp only [↓wR,RA,simprocAttr,TF,h2]
noncomputable def sy (x:UInt16 × c0 × Unit):Option AV:=if dy x.2.1 then some ((r1 (ay .i64)).E true (gj x.1 x.2.1)) else none
set_option maxRecDepth 2000000 in
theorem B8 (x:UInt16 × c0 × Unit) (r:AV) (h:sy x=some r):bc PP 141 ((aC da (aC bz a0)).E x) r:=by
 by_cases hc:dy x.2.1
 case neg=>simp only [sy,if_neg hc] at h;cases h
 simp only [sy,if_pos hc] at h
 cases h
 exact ba (aj.cons (ai alb) (aj.cons (ai Gf) (aj.cons (ai ap5) (aj.cons (ai ld) (aj.cons (ai Ht) (aj.nil PP)))))) Tryz.func141 (by kernel_rfl) (by kernel_rfl) (by kernel_rfl) (Nat.le_of_ble_eq_true (by kernel_rfl)) (r1 (ay .i64)) true (gj x.1 x.2.1) (ae3 x.1 x.2.1 hc)
noncomputable abbrev Ms:Nat × Bool × (List AV→M AV):=(141,true,cx (aC da (aC bz a0)) sy)
noncomputable def Jm (t:UInt16) (d:c0):List UInt8:=if gj t d≠0 then [] else Jk t d
theorem ae9 (t:UInt16) (d:c0) (hd:dy d):wl PP [Ms,X0] 0 (Tryz.f175.body.getD .skip) (dj PP Tryz.f175.results.toList (fun r st=>(r2 (ca cj) (ay .i64)).get true st.h r=some (Jm t d,gj t d))) (b9 0 [da.val false t,bz.val false d]) (bq []):=by
 unfold Tryz.f175
 simp only [ku,dm]
 simp only [↓wR,RA,simprocAttr,TF,sy,hd]
 unfold Jm
 rw [br];refine ⟨fun h=>?_,fun h=>?_⟩
 ·have he:gj t d≠0:=by simpa using h
  rw [if_pos he]
  simp only [↓wR,RA,simprocAttr,TF,h]
 ·have he:gj t d=0:=by simpa using h
  rw [if_neg (by omega)]
  simp only [↓wR,RA,simprocAttr,TF,h,wj,hd,he]
noncomputable def A8 (x:UInt16 × c0 × Unit):Option AV:=if dy x.2.1 then some ((r2 (ca cj) (ay .i64)).E true ((Jm x.1 x.2.1,gj x.1 x.2.1))) else none
set_option maxRecDepth 2000000 in
theorem Yg (x:UInt16 × c0 × Unit) (r:AV) (h:A8 x=some r):bc PP 175 ((aC da (aC bz a0)).E x) r:=by
 by_cases hc:dy x.2.1
 case neg=>simp only [A8,if_neg hc] at h;cases h
 simp only [A8,if_pos hc] at h
 cases h
 exact ba (aj.cons (ai B8) (aj.cons (ai Ht) (aj.nil PP))) Tryz.func175 (by kernel_rfl) (by kernel_rfl) (by kernel_rfl) (Nat.le_of_ble_eq_true (by kernel_rfl)) (r2 (ca cj) (ay .i64)) true ((Jm x.1 x.2.1,gj x.1 x.2.1)) (ae9 x.1 x.2.1 hc)
noncomputable abbrev arn:Nat × Bool × (List AV→M AV):=(175,true,cx (aC da (aC bz a0)) A8)
theorem asy (args:List AV):C3 PP 191 args (Cx.fm args):=
 Cx.i6 (fn:=(PP.funcs[191]?).getD default) (by kernel_rfl) (by kernel_rfl) (by kernel_rfl) (by kernel_rfl) (by kernel_rfl) args
noncomputable abbrev aEg:Nat × Bool × (List AV→M AV):=(191,true,Cx.fm)
theorem aAc:aj PP [aEg]:=aj.cons asy (aj.nil PP)
noncomputable def ajg (a b:List UInt8):Int:=Lib.compareBytes a b
theorem W8 (a b:List UInt8):wl PP [aEg] 0 (Tryz.f177.body.getD .skip) (dj PP Tryz.f177.results.toList (fun r st=>(r1 (ay .i64)).get true st.h r=some (ajg a b))) (b9 0 [(ca cj).val false a,(ca cj).val false b]) (bq []):=by
 unfold Tryz.f177
 simp only [lu]
 simp only [↓wR,RA,simprocAttr,TF,ajg]
noncomputable def y8 (x:List UInt8 × List UInt8 × Unit):Option AV:=some ((r1 (ay .i64)).E true (ajg x.1 x.2.1))
theorem Qs (x:List UInt8 × List UInt8 × Unit) (r:AV) (h:y8 x=some r):bc PP 177 ((aC (ca cj) (aC (ca cj) a0)).E x) r:=by
 cases h
 exact ba aAc Tryz.func177 (by kernel_rfl) (by kernel_rfl) (by kernel_rfl) (Nat.le_of_ble_eq_true (by kernel_rfl)) (r1 (ay .i64)) true (ajg x.1 x.2.1) (W8 x.1 x.2.1)
noncomputable abbrev ad3:Nat × Bool × (List AV→M AV):=(177,true,cx (aC (ca cj) (aC (ca cj) a0)) y8)
theorem asq (s:ByteArray):(fold s).size=s.size:=by
 show (s.data.toList.map low).toArray.size=s.data.size
 simp
theorem Ze (n:Name):bw (g9 n)=bw n:=by
 unfold bw g9
 rw [List.foldl_map]
 simp only [asq]
theorem atz (l:List Name):fp bw (l.map g9)=fp bw l:=by
 induction l with
 |nil=>rfl
 |cons a l ih=>simp only [fp,List.map_cons,List.foldr_cons,Ze] at ih ⊢;rw [ih]
theorem dy.fold {d:c0} (h:dy d) (t:UInt16):dy (wz t d):=by
 unfold wz
 split
 ·unfold dy v8 at *
  simp only [atz];exact h
 ·exact h
noncomputable def T8 (t:UInt16) (a b:c0):Int:=if gj t (wz t a)≠0∨gj t (wz t b)≠0 then 0 else ajg (Jm t (wz t a)) (Jm t (wz t b))
noncomputable def P1 (t:UInt16) (a b:c0):Bool:=decide (gj t a=0) && decide (gj t b=0) && decide (T8 t a b=0)
theorem Yl (t:UInt16) (a b:c0) (ha:dy a) (hb:dy b):wl PP [ax1,arn,ad3] 0 (Tryz.f153.body.getD .skip) (dj PP Tryz.f153.results.toList (fun r st=>(r1 (ay .i64)).get true st.h r=some (T8 t a b))) (b9 0 [da.val false t,bz.val false a,bz.val false b]) (bq []):=by
 have fa:=ha.fold t
 have fb:=hb.fold t
 unfold Tryz.f153
 simp only [ku,dm]
 simp only [↓wR,RA,simprocAttr,TF,Dc,A8,y8,ha,hb,fa,fb]
 unfold T8
 rw [br];refine ⟨fun h=>?_,fun h=>?_⟩
 ·have he:gj t (wz t a)≠0:=by simpa using h
  rw [if_pos (.inl he)]
  simp only [↓wR,RA,simprocAttr,TF,h]
 have he:gj t (wz t a)=0:=by simpa using h
 simp only [↓wR,RA,simprocAttr,TF,h]
 rw [br];refine ⟨fun h2=>?_,fun h2=>?_⟩
 ·have he2:gj t (wz t b)≠0:=by simpa using h2
  rw [if_pos (.inr he2)]
  simp only [↓wR,RA,simprocAttr,TF,h2]
 ·have he2:gj t (wz t b)=0:=by simpa using h2
  rw [if_neg (by omega)]
  simp only [↓wR,RA,simprocAttr,TF,h2,y8]
noncomputable def od (x:UInt16 × c0 × c0 × Unit):Option AV:=if dy x.2.1∧dy x.2.2.1 then some ((r1 (ay .i64)).E true (T8 x.1 x.2.1 x.2.2.1)) else none
set_option maxRecDepth 2000000 in
theorem Fx (x:UInt16 × c0 × c0 × Unit) (r:AV) (h:od x=some r):bc PP 153 ((aC da (aC bz (aC bz a0))).E x) r:=by
 by_cases hc:dy x.2.1∧dy x.2.2.1
 case neg=>simp only [od,if_neg hc] at h;cases h
 simp only [od,if_pos hc] at h
 cases h
 exact ba (aj.cons (ai acx) (aj.cons (ai Yg) (aj.cons (ai Qs) (aj.nil PP)))) Tryz.func153 (by kernel_rfl) (by kernel_rfl) (by kernel_rfl) (Nat.le_of_ble_eq_true (by kernel_rfl)) (r1 (ay .i64)) true (T8 x.1 x.2.1 x.2.2.1) (Yl x.1 x.2.1 x.2.2.1 hc.1 hc.2)
noncomputable abbrev H8:Nat × Bool × (List AV→M AV):=(153,true,cx (aC da (aC bz (aC bz a0))) od)
theorem alg (t:UInt16) (a b:c0) (ha:dy a) (hb:dy b):wl PP [Ms,H8] 0 (Tryz.f150.body.getD .skip) (dj PP Tryz.f150.results.toList (fun r st=>(r1 bn).get true st.h r=some (P1 t a b))) (b9 0 [da.val false t,bz.val false a,bz.val false b]) (bq []):=by
 unfold Tryz.f150
 simp only [ku,dm]
 simp only [↓wR,RA,simprocAttr,TF,sy,ha,hb]
 unfold P1
 rw [c9];refine ⟨fun ⟨h,e⟩=>?_,fun ⟨h,e⟩=>?_⟩
 ·rw [decide_eq_true e]
  simp only [↓wR,RA,simprocAttr,TF,h,sy,ha,hb]
  rw [c9];refine ⟨fun ⟨h2,e2⟩=>?_,fun ⟨h2,e2⟩=>?_⟩
  ·rw [decide_eq_true e2]
   simp only [↓wR,RA,simprocAttr,TF,h2,od,ha,hb]
   rfl
  ·rw [decide_eq_false e2]
   simp only [↓wR,RA,simprocAttr,TF,h2]
   rfl
 ·rw [decide_eq_false e]
  simp only [↓wR,RA,simprocAttr,TF,h]
  rfl
noncomputable def Du (x:UInt16 × c0 × c0 × Unit):Option AV:=if dy x.2.1∧dy x.2.2.1 then some ((r1 bn).E true (P1 x.1 x.2.1 x.2.2.1)) else none
set_option maxRecDepth 2000000 in
theorem ac2 (x:UInt16 × c0 × c0 × Unit) (r:AV) (h:Du x=some r):bc PP 150 ((aC da (aC bz (aC bz a0))).E x) r:=by
 by_cases hc:dy x.2.1∧dy x.2.2.1
 case neg=>simp only [Du,if_neg hc] at h;cases h
 simp only [Du,if_pos hc] at h
 cases h
 exact ba (aj.cons (ai B8) (aj.cons (ai Fx) (aj.nil PP))) Tryz.func150 (by kernel_rfl) (by kernel_rfl) (by kernel_rfl) (Nat.le_of_ble_eq_true (by kernel_rfl)) (r1 bn) true (P1 x.1 x.2.1 x.2.2.1) (alg x.1 x.2.1 x.2.2.1 hc.1 hc.2)
noncomputable abbrev axw:Nat × Bool × (List AV→M AV):=(150,true,cx (aC da (aC bz (aC bz a0))) Du)
end Go.Proofs.YtajammoepjpiiaaGreat
end
section
set_option maxRecDepth 100000
namespace Go.Vm
noncomputable section
theorem Je {α:Type} (C:dn α) (fr:Bool) (h:Tr bh) (l:List AV) (ha:C.agg=true):C.dec fr h l=C.fw fr h (.agg l):=by
 rw [qg _ _ _ _ rfl (by rw [ha];rfl)];rfl
theorem M0 {α β:Type} (A:dn α) (B:dn β) (fr:Bool) (h:Tr bh) (l:List AV):(iz A B).dec fr h l=match A.dec fr h (l.take A.sz),B.dec fr h (l.drop A.sz) with|some x,some y=>some (x,y)|_,_=>none:=rfl
theorem He {α:Type} (C:dn α) (fr h) (x:AV):(ca C).dec fr h [x]=ek C fr h x:=rfl
theorem G4 (fr h) (x:AV):aw.dec fr h [x]=ek aq fr h x:=rfl
theorem Ui {P:Program} {T:eg} {l:Nat} {bd:Nat} {L:SL} {st:St} {Q:QI} {ps:List Tmp} {ra rb:Code} {L0:SL} {α:Type} {b:Code} (keep:List Nat) (V : α→List AV) (O : α→List (Option bh)) (I : α→Prop) (μ : α→Nat) (x : α) (hx:I x)
 (hv:jt bd (kc bd keep L st) (gw bd keep L st) (V x) (O x))
 (step:∀ x,I x→nw P T l (je ps (fun p=>wl P T p ra) (fun p=>wl P T p rb) L0) bd b (vd (ya bd keep (fun vs os=>∃ y,I y ∧ μ y < μ x∧vs=V y∧os=O y) (fun _ _ _=>False)) Q) none (nq keep (V x)) (bq (O x))):nw P T l (je ps (fun p=>wl P T p ra) (fun p=>wl P T p rb) L0) bd (.loop b) Q none L st:=by
 have mono:∀ (Q1 Q2:QL),(∀ e L st,Q1 e L st→Q2 e L st)→∀ L st,nw P T l (je ps (fun p=>wl P T p ra) (fun p=>wl P T p rb) L0) bd b (vd Q1 Q) none L st→nw P T l (je ps (fun p=>wl P T p ra) (fun p=>wl P T p rb) L0) bd b (vd Q2 Q) none L st:=fun Q1 Q2 h L st hh=>Kv (Iu P T) b _ _ (fun e pe L st q=>by
  cases e with
  |normal=>exact ⟨q.1,h _ _ _ q.2⟩
  |ret=>exact q
  |exit i=>exact q) none L st hh
 refine ⟨rfl,sx.aqr (B:=fun Q' L st=>nw P T l _ bd b (vd Q' Q) none L st) keep V O I μ x hx hv mono (fun x hi=>mono _ _ (fun e L' st' hq=>?_) _ _ (step x hi))⟩
 cases e with
 |normal=>
  obtain ⟨y,h1,h2,h3,h4⟩:=hq
  refine ⟨y,h1,h2,?_⟩
  rw [h3,h4];exact .refl _ _ _
 |exit i=>exact hq.elim
 |ret=>exact hq.elim
theorem Ma (k fr h n cells kk st et) (hn:n=cells.length):mf (ay k) fr h 0 n (.row cells kk st et)=q8 (ay k) fr h cells:=x0 (ay k) rfl fr h n cells kk st et hn
theorem Sc (k fr h f) (l):q8 (ay k) fr h (List.map ((ay k).val f) l)=some l:=by
 have e:List.map ((ay k).val f) l=List.map ((ay k).val true) l:=by cases f<;>rfl
 rw [e];exact B4 (ay k) rfl rfl fr h true (fun _=>rfl) l
def ic (n:Nat) (r:AV) (st:St):List Nat:=reach st.h fh (r.names++pa st.h (dw 0 n)) (dw 0 n)
def i7 (n:Nat) (r:AV) (st:St):AV:=r.dk (fun o=>idx (ic n r st) o 0)
def ir (n:Nat) (r:AV) (st:St):St:=bq (iy st.h (fun o=>idx (ic n r st) o 0) (ic n r st))
theorem amx {g g':Gh} {st st':St} {w w':World} {r:AV} {v:Value} (hn:st.nx≤1000) (hfr:∀ o,st.nx≤o→g.inj o=none) (hs:Step g st.h w st.nx st'.nx g' st'.h w') (hok:Ok g' st'.h w') (hr:Rel g' w' r v) :
 ∃ g'',st.nx≤(ir st.nx r st').nx∧Step g st.h w st.nx (ir st.nx r st').nx g'' (ir st.nx r st').h w'∧Ok g'' (ir st.nx r st').h w'∧Rel g'' w' (i7 st.nx r st') v:=by
 have hN:=z9 st'.h fh (r.names++pa st'.h (dw 0 st.nx)) (dw 0 st.nx) (sf _ _)
 change (ic st.nx r st').Nodup∧(∃ q,ic st.nx r st'=dw 0 st.nx++q)∧(ic st.nx r st').length≤_ at hN
 have hτ:∀ o p,(fun o=>idx (ic st.nx r st') o 0) o=some p→(ic st.nx r st')[p]? = some o:=fun o p h=>Fc _ o p h
 unfold ir i7
 generalize ic st.nx r st'=N at hN hτ
 obtain ⟨hnd,⟨rest,hpre⟩,hlen⟩:=hN
 rw [jg] at hlen
 have hlim:N.length≤cw:=by simp only [fh,cw] at *;omega
 have de:∀ i x,(bq (iy st'.h (fun o=>idx N o 0) N)).h.get i=some x→∃ o y,N[i]? = some o∧st'.h.get o=some y∧y.dk (fun o=>idx N o 0)=some x:=by
  intro i x hx
  simp only [bq] at hx
  rw [uu _ _ _ (by rw [ig];omega),if_pos (Nat.zero_le _),Nat.sub_zero,vh] at hx
  cases hi:N[i]? with
  |none=>rw [hi] at hx;cases hx
  |some o=>
   rw [hi] at hx
   simp only [Option.map_some,Option.join_some] at hx
   cases hy:st'.h.get o with
   |none=>rw [hy] at hx;cases hx
   |some y=>rw [hy] at hx;exact ⟨o,y,rfl,hy,hx⟩
 have hinj:∀ i o,N[i]? = some o→(g'.dk N).inj i=g'.inj o:=fun i o h=>by simp [Gh.dk,h]
 have hlow:∀ o,o<st.nx→N[o]? = some o:=fun o ho=>by rw [hpre,List.getElem?_append_left (by rw [jg];exact ho),Ez _ _ _ ho,Nat.zero_add]
 have hnx:(bq (iy st'.h (fun o=>idx N o 0) N)).nx=N.length:=by simp only [bq,ig]
 have hle:st.nx≤N.length:=by rw [hpre,List.length_append,jg];omega
 rw [hnx]
 refine ⟨g'.dk N,hle,⟨⟨hs.ext.b0,fun o p ho=>?_,hs.ext.K,hs.ext.cell,hs.ext.Bl,hs.ext.lp⟩,hs.size,hs.os,hs.tape,hs.output,hs.frame,fun o ho hr=>?_,fun i b base hi hj=>?_,hs.pw⟩,⟨hok.size,fun i x hx=>?_,fun i j x y b base base' hij hx hy hb hb'=>?_,hok.K⟩,hr.dk hτ⟩
 ·have hlt:o<st.nx:=by
   rcases Nat.lt_or_ge o st.nx with h|h
   ·exact h
   ·rw [hfr o h] at ho;cases ho
  rw [hinj o o (hlow o hlt)];exact hs.ext.inj o p ho
 ·rcases Nat.lt_or_ge o st.nx with h|h
  ·rw [hinj o o (hlow o h)];exact hs.fresh o ho (by omega)
  ·simp [Gh.dk,List.getElem?_eq_none (show N.length≤o by omega)]
 ·obtain ⟨x,hx⟩:=Option.isSome_iff_exists.1 hi
  obtain ⟨o,y,h1,h2,_⟩:=de i x hx
  rw [hinj i o h1] at hj
  exact hs.own o b base (by rw [h2];rfl) hj
 ·obtain ⟨o,y,h1,h2,h3⟩:=de i x hx
  refine (hok.nn o y h2).imp (fun q=>⟨by rw [hinj i o h1];exact q.1,by obtain ⟨s0,e0,rfl⟩:=q.2;simp only [bh.dk,AV.dk.go,Option.some.injEq] at h3;exact ⟨s0,e0,h3.symm⟩⟩) ?_
  rintro ⟨b,base,q1,q2,q3⟩
  exact ⟨b,base,by rw [hinj i o h1];exact q1,q2,q3.dk hτ h3⟩
 ·obtain ⟨o,y1,h1,h2,_⟩:=de i x hx
  obtain ⟨o',y2,h1',h2',_⟩:=de j y hy
  rw [hinj i o h1] at hb
  rw [hinj j o' h1'] at hb'
  have hne:o≠o':=by
   intro e
   subst e
   obtain ⟨hi,ei⟩:=List.getElem?_eq_some_iff.1 h1
   obtain ⟨hj,ej⟩:=List.getElem?_eq_some_iff.1 h1'
   exact hij ((List.getElem_inj hnd).1 (ei.trans ej.symm))
  exact hok.sep o o' _ _ b base base' hne h2 h2' hb hb'
theorem eb {P:Program} {f:Nat} {args:List AV} {st:St} {R:AV→St→Prop} (R0:AV→St→Prop) (hn:Nat.ble st.nx 1000=true) (h1:ql P f args st (fun r st'=>R0 (i7 st.nx r st') (ir st.nx r st'))) (h2:∀ r st',R0 r st'→R r st'):ql P f args st R:=by
 intro g w vs hok hfr hrel
 rcases h1 g w vs hok hfr hrel with ⟨v,w',g',r,st',q1,q2,q3,q4,q5,q6⟩|⟨q1,q2⟩
 ·obtain ⟨g'',p1,p2,p3,p4⟩:=amx (Nat.le_of_ble_eq_true hn) hfr q4 q5 q6
  exact .inl ⟨v,w',g'',_,_,q1,h2 _ _ q2,p1,p2,p3,p4⟩
 ·refine .inr ⟨q1,q2.mono ?_⟩
  rintro e w' ⟨v,g',r,st',rfl,q2,q3,q4,q5,q6⟩
  obtain ⟨g'',p1,p2,p3,p4⟩:=amx (Nat.le_of_ble_eq_true hn) hfr q4 q5 q6
  exact ⟨v,g'',_,_,rfl,h2 _ _ q2,p1,p2,p3,p4⟩
theorem Mc (l) (n:Name):j0 (aw.val l n)=some n.length:=by
 rw [dm];show some (List.map (aq.val l) n).length=_;rw [List.length_map]
theorem anc (a b:Operand):(#[a]++(none:Option Operand).toArray++(some b).toArray++(none:Option Operand).toArray).toList=[a,b]:=id rfl
theorem md5 (a:Nat):a * 5 / 5=a:=by omega
theorem dv2 : 2 / 2=1:=rfl
theorem dv4 : 4 / 4=1:=rfl
theorem dv5 : 5 / 5=1:=rfl
theorem agi (fr h):da.dec fr h [.sc (.int .u16 0)]=some 0:=rfl
theorem aiv (fr h):bg.dec fr h [.sc (.int .u32 0)]=some 0:=rfl
theorem ame (k fr h n):(ay k).dec fr h [.sc (.int k n)]=some n:=(ay k).rt fr h true n (fun _=>rfl)
theorem Ml (l:Bool) (d:c0):(bz.val l d).cells=[.vl l 1 (d.names.map (aw.val l)),.vl l 1 (d.nums.map (bg.val l)),.vl l 1 (d.texts.map (aq.val l)),.vl l 1 (d.raw.map (cj.val l))]:=id rfl
theorem Nn (fr h l) (n:Name) (hl:(l || !fr)=true):ek aq fr h (aw.val l n)=some n:=wg aq fr h l n 1 rfl hl
def ahm {α:Type} (C:dn α) (h:Tr bh) (off:Nat) (x:bh):Option α:=
 match x with
 |.row cells _ _ _=>bif Nat.ble (off+C.sz) cells.length then C.dec false h ((cells.drop off).take C.sz) else none
 |_=>none
def K5 {α:Type} (C:dn α) (h:Tr bh) (a:AV):Option α:=
 match a with
 |.gn l=>bif Nat.ble C.sz l.length then C.dec false h (l.take C.sz) else none
 |.ptr o off=>(h.get o).bind (ahm C h off)
 |_=>none
theorem Ti {α:Type} (C:dn α) (h o off):K5 C h (.ptr o off)=(h.get o).bind (ahm C h off):=id rfl
theorem N9 {α:Type} (C:dn α) (h l):K5 C h (.gn l)=bif Nat.ble C.sz l.length then C.dec false h (l.take C.sz) else none:=id rfl
theorem Ue {α:Type} (C:dn α) (h off cells k s e):ahm C h off (.row cells k s e)=bif Nat.ble (off+C.sz) cells.length then C.dec false h ((cells.drop off).take C.sz) else none:=id rfl
theorem al9 {α:Type} (C:dn α) {g h w K b0 a v x} (hok:Ok g h w) (hl:s6 g h K) (hr:Rel g w a v) (hd:K5 C h a=some x):Rel (gK b0 K) w (.gn (C.cells false x)) v:=by
 have fin:∀ (b off:Nat) (vs:List Value),bu g w ((C.cells false x).map fun _=>AV.bad) vs→bu (gK b0 K) w (C.cells false x) vs→(∀ j u,vs[j]? = some u→K b (off+j)∧w.cell? ⟨b,off+j,none⟩=some u)→Rel (gK b0 K) w (.gn (C.cells false x)) (.pointer (some ⟨b,off,none⟩)):=by
  intro b off vs _ hrl hc
  refine .gn _ b off (fun j=>vs.getD j undef) (fun j a hj=>?_) (fun j a hj=>?_)
  ·obtain ⟨u,hu,_⟩:=hrl.get hj
   have:=hc j u hu
   exact ⟨this.1,by rw [this.2,List.getD_eq_getElem?_getD,hu];rfl⟩
  ·obtain ⟨u,hu,hrel⟩:=hrl.get hj
   show Rel _ _ a (vs.getD j undef)
   rw [List.getD_eq_getElem?_getD,hu];exact hrel
 have bads:∀ vs:List Value,bu (gK b0 K) w (C.cells false x) vs→bu g w ((C.cells false x).map fun _=>AV.bad) vs:=fun vs h=>⟨by simpa using h.1,fun i a v ha _=>by
  rw [List.getElem?_map,Option.map_eq_some_iff] at ha
  obtain ⟨_,_,rfl⟩:=ha
  exact .bad _⟩
 cases hr with
 |gn l b off c h1 h2=>
  rw [N9] at hd
  cases hb:Nat.ble C.sz l.length with
  |false=>rw [hb] at hd;cases hd
  |true=>
   rw [hb,cond_true] at hd
   have hle:=Nat.le_of_ble_eq_true hb
   have hlist:bu g w (l.take C.sz) (jf 0 C.sz c):=by
    refine ⟨by simp [jf];omega,fun i a v ha hv=>?_⟩
    rw [List.getElem?_take] at ha
    by_cases hi:i<C.sz
    ·rw [if_pos hi] at ha
     simp only [jf,List.getElem?_map,List.getElem?_range hi,Option.map_some,Option.some.injEq,Nat.zero_add] at hv
     subst hv
     exact h2 i a ha
    ·rw [if_neg hi] at ha;cases ha
   have q:=C.ok (b0:=b0) hok hl (fun e=>by cases e) hlist hd
   refine fin b off _ (bads _ q) q (fun j u hu=>?_)
   have hj:j<C.sz:=by have:=(List.getElem?_eq_some_iff.1 hu).1;simpa [jf] using this
   simp only [jf,List.getElem?_map,List.getElem?_range hj,Option.map_some,Option.some.injEq,Nat.zero_add] at hu
   subst hu
   have:=h1 j _ (List.getElem?_eq_getElem (by omega))
   exact ⟨hl.K _ _ this.1,this.2⟩
 |ptr o off b base hi=>
  rw [Ti,Option.bind_eq_some_iff] at hd
  obtain ⟨y,hy,hd⟩:=hd
  obtain ⟨b',base',hi',hbb,hrow⟩:=hok.obj o y hy
  rw [hi] at hi';cases hi'
  cases y with
  |map es=>cases hd
  |loop=>cases hd
  |row cells k st et=>
   rw [Ue] at hd
   cases hle:Nat.ble (off+C.sz) cells.length with
   |false=>rw [hle] at hd;cases hd
   |true=>
    rw [hle,cond_true] at hd
    have hle':=Nat.le_of_ble_eq_true hle
    obtain ⟨cs,fz,r1,r2,r3,_⟩:=hrow
    have hpart:bu g w ((cells.drop off).take C.sz) (jf (base+off) C.sz (fun j=>cs.getD j undef)):=by
     refine ⟨by simp [jf];omega,fun i a v ha hv=>?_⟩
     rw [List.getElem?_take,List.getElem?_drop] at ha
     by_cases hil:i<C.sz
     ·rw [if_pos hil] at ha
      obtain ⟨u,hu,hrel⟩:=r3 _ a ha
      simp only [jf,List.getElem?_map,List.getElem?_range hil,Option.map_some,Option.some.injEq] at hv
      subst hv
      rw [Array.getD_eq_getD_getElem?,Nat.add_assoc,hu]
      exact hrel
     ·rw [if_neg hil] at ha;cases ha
    have q:=C.ok (b0:=b0) hok hl (fun e=>by cases e) hpart hd
    refine fin b (base+off) _ (bads _ q) q (fun j u hv=>?_)
    have hj:j<C.sz:=by have:=(List.getElem?_eq_some_iff.1 hv).1;simpa [jf] using this
    simp only [jf,List.getElem?_map,List.getElem?_range hj,Option.map_some,Option.some.injEq] at hv
    obtain ⟨u,hu,_⟩:=r3 (off+j) (cells[off+j]'(by omega)) (by simp)
    have hrows:=hl.rows o cells k st et hy b base hi (off+j) (by omega)
    rw [← Nat.add_assoc] at hrows hu
    refine ⟨hrows,?_⟩
    rw [nc r1,hu,← hv,Array.getD_eq_getD_getElem?,hu]
    rfl
 |_=>cases hd
def aP {α β:Type} (C:dn α) (R:AC β):AC (α × β) where
 E p:=.gn (C.cells false p.1)::R.E p.2
 D h l:=match l with
  | []=>none
  |a::r=>match K5 C h a,R.D h r with
   |some x,some y=>some (x,y)
   |_,_=>none
 rt h p:=by
  have:K5 C h (.gn (C.cells false p.1))=some p.1:=by
   rw [N9,C.len,Nat.ble_self_eq_true,cond_true,List.take_of_length_le (by rw [C.len];exact Nat.le_refl _)]
   exact C.rt false h false p.1 (fun e=>by cases e)
  simp only [this,R.rt]
 ok:=by
  intro g h w K b0 l vs x hok hl hr hd
  match l,hd with
  |a::r,hd=>
   simp only at hd
   split at hd
   ·rename_i x1 y1 hx hy
    simp at hd;subst hd
    match vs,hr with
    | [],hr=>have:=hr.1;simp at this
    |v::vs,hr=>exact bu.cons (al9 C hok hl hr.head hx) (R.ok hok hl hr.tail hy)
   ·cases hd
theorem aDw {α β:Type} (C:dn α) (R:AC β) (h:Tr bh) (a:AV) (r:List AV):(aP C R).get h (a::r)=match K5 C h a,R.get h r with|some x,some y=>some (x,y)|_,_=>none:=id rfl
theorem Mf (f) (l:List c0) (d:c0):cellsOf bz f (l++[d])=cellsOf bz f l++[.vl f 1 (d.names.map (aw.val f)),.vl f 1 (d.nums.map (bg.val false)),.vl f 1 (d.texts.map (aq.val false)),.vl f 1 (d.raw.map (cj.val false))]:=by rw [wk,Cu];rfl
structure bo where
 owner:Name
 type:UInt16
 cls:UInt16
 ot:UInt32
 data:List c0
def mkS (owner:Name) (type:UInt16) (cls:UInt16) (ot:UInt32) (data:List c0):bo:=⟨owner,type,cls,ot,data⟩
theorem amv (x:bo):mkS x.owner x.type x.cls x.ot x.data=x:=id rfl
def ak:dn bo:=vv (iz aw (iz da (iz da (iz bg (ca bz))))) (fun x=>(x.owner,x.type,x.cls,x.ot,x.data)) (fun p=>⟨p.1,p.2.1,p.2.2.1,p.2.2.2.1,p.2.2.2.2⟩) (fun _=>rfl) (fun _=>rfl)
theorem jq (l:Bool) (x:bo):ak.val l x = .agg [.vl l 1 (x.owner.map (aq.val l)),.sc (.int .u16 x.type.toNat),.sc (.int .u16 x.cls.toNat),.sc (.int .u32 x.ot.toNat),.vl l 4 (x.data.map (bz.val l))]:=id rfl
theorem aai:ak.sz=5:=id rfl
theorem Wh (fr:Bool) (h:Tr bh) (y0 y1 y2 y3 y4:AV):ak.fw fr h (.agg [y0,y1,y2,y3,y4])=match ek aq fr h y0,da.dec fr h [y1],da.dec fr h [y2],bg.dec fr h [y3],ek bz fr h y4 with
 |some v0,some v1,some v2,some v3,some v4=>some (mkS v0 v1 v2 v3 v4)
 |_,_,_,_,_=>none:=by
 rw [qg _ _ _ _ rfl rfl]
 have h1:ak.dec fr h (AV.agg [y0,y1,y2,y3,y4]).cells=Option.map (fun p=>(⟨p.1,p.2.1,p.2.2.1,p.2.2.2.1,p.2.2.2.2⟩:bo)) ((iz aw (iz da (iz da (iz bg (ca bz))))).dec fr h [y0,y1,y2,y3,y4]):=rfl
 rw [h1]
 simp only [M0,ug,n6,ur,ri,ta,re,List.take_succ_cons,List.take_zero,List.drop_succ_cons,List.drop_zero,He,G4]
 cases (ek aq fr h y0)<;>cases (da.dec fr h [y1])<;>cases (da.dec fr h [y2])<;>cases (bg.dec fr h [y3])<;>cases (ek bz fr h y4)<;>rfl
theorem So (f) (l:List bo):(l.map (ak.val f)).flatMap AV.cells=cellsOf ak f l:=Gq ak f l
theorem Bg (l) (xs:List bo) (x:bo):cellsOf ak l (xs++[x])=cellsOf ak l xs++[.vl l 1 (x.owner.map (aq.val false)),.sc (.int .u16 x.type.toNat),.sc (.int .u16 x.cls.toNat),.sc (.int .u32 x.ot.toNat),.vl l 4 (x.data.map (bz.val l))]:=by rw [wk,Cu];rfl
structure be where
 origin:Name
 ar:List bo
def mkZ (origin:Name) (ar:List bo):be:=⟨origin,ar⟩
theorem al0 (x:be):mkZ x.origin x.ar=x:=id rfl
def bf:dn be:=vv (iz aw (ca ak)) (fun x=>(x.origin,x.ar)) (fun p=>⟨p.1,p.2⟩) (fun _=>rfl) (fun _=>rfl)
theorem gz (l:Bool) (x:be):bf.val l x = .agg [.vl l 1 (x.origin.map (aq.val l)),.vl l 5 (x.ar.map (ak.val l))]:=id rfl
theorem Cg (l:Bool) (x:be):bf.cells l x=[.vl l 1 (x.origin.map (aq.val l)),.vl l 5 (x.ar.map (ak.val l))]:=id rfl
theorem Kf:bf.sz=2:=id rfl
theorem Ih (fr:Bool) (h:Tr bh) (y0 y1:AV):bf.fw fr h (.agg [y0,y1])=match ek aq fr h y0,ek ak fr h y1 with
 |some v0,some v1=>some (mkZ v0 v1)
 |_,_=>none:=by
 rw [qg _ _ _ _ rfl rfl]
 have h1:bf.dec fr h (AV.agg [y0,y1]).cells=Option.map (fun p=>(⟨p.1,p.2⟩:be)) ((iz aw (ca ak)).dec fr h [y0,y1]):=rfl
 rw [h1]
 simp only [M0,ug,n6,ur,ri,ta,re,List.take_succ_cons,List.take_zero,List.drop_succ_cons,List.drop_zero,He,G4]
 cases (ek aq fr h y0)<;>cases (ek ak fr h y1)<;>rfl
theorem Ow (fr:Bool) (h:Tr bh) (y0 y1:AV):bf.dec fr h [y0,y1]=match ek aq fr h y0,ek ak fr h y1 with
 |some v0,some v1=>some (mkZ v0 v1)
 |_,_=>none:=(Je bf fr h _ rfl).trans (Ih fr h y0 y1)
theorem acg (l) (xs:List be) (x:be):cellsOf bf l (xs++[x])=cellsOf bf l xs++[.vl l 1 (x.origin.map (aq.val false)),.vl l 5 (x.ar.map (ak.val l))]:=by rw [wk,Cu];rfl
structure ou where
 addr:UInt32
 az:List Int
def Vr (addr:UInt32) (az:List Int):ou:=⟨addr,az⟩
def c8:dn ou:=vv (iz bg (ca (ay .i64))) (fun x=>(x.addr,x.az)) (fun p=>⟨p.1,p.2⟩) (fun _=>rfl) (fun _=>rfl)
theorem S4 (l:Bool) (x:ou):c8.val l x = .agg [.sc (.int .u32 x.addr.toNat),.vl l 1 (x.az.map ((ay .i64).val l))]:=id rfl
theorem Xw:c8.sz=2:=id rfl
theorem ak3 (fr:Bool) (h:Tr bh) (y0 y1:AV):c8.fw fr h (.agg [y0,y1])=match bg.dec fr h [y0],ek (ay .i64) fr h y1 with
 |some v0,some v1=>some (Vr v0 v1)
 |_,_=>none:=by
 rw [qg _ _ _ _ rfl rfl]
 have h1:c8.dec fr h (AV.agg [y0,y1]).cells=Option.map (fun p=>(⟨p.1,p.2⟩:ou)) ((iz bg (ca (ay .i64))).dec fr h [y0,y1]):=rfl
 rw [h1]
 simp only [M0,ug,n6,ur,ri,ta,re,List.take_succ_cons,List.take_zero,List.drop_succ_cons,List.drop_zero,He,G4]
 cases (bg.dec fr h [y0])<;>cases (ek (ay .i64) fr h y1)<;>rfl
theorem adn (fr:Bool) (h:Tr bh) (y0 y1:AV):c8.dec fr h [y0,y1]=match bg.dec fr h [y0],ek (ay .i64) fr h y1 with
 |some v0,some v1=>some (Vr v0 v1)
 |_,_=>none:=(Je c8 fr h _ rfl).trans (ak3 fr h y0 y1)
theorem ab9 (l) (xs:List ou) (x:ou):cellsOf c8 l (xs++[x])=cellsOf c8 l xs++[.sc (.int .u32 x.addr.toNat),.vl l 1 (x.az.map ((ay .i64).val false))]:=by rw [wk,Cu];rfl
structure bk where
 az:List be
 dc:List ou
 hints:List UInt32
def mkW (az:List be) (dc:List ou) (hints:List UInt32):bk:=⟨az,dc,hints⟩
theorem ama (x:bk):mkW x.az x.dc x.hints=x:=id rfl
def cr:dn bk:=vv (iz (ca bf) (iz (ca c8) (ca bg))) (fun x=>(x.az,x.dc,x.hints)) (fun p=>⟨p.1,p.2.1,p.2.2⟩) (fun _=>rfl) (fun _=>rfl)
theorem ed (l:Bool) (x:bk):cr.val l x = .agg [.vl l 2 (x.az.map (bf.val l)),.vl l 2 (x.dc.map (c8.val l)),.vl l 1 (x.hints.map (bg.val l))]:=id rfl
theorem M9 (fr:Bool) (h:Tr bh) (y0 y1 y2:AV):cr.fw fr h (.agg [y0,y1,y2])=match ek bf fr h y0,ek c8 fr h y1,ek bg fr h y2 with
 |some v0,some v1,some v2=>some (mkW v0 v1 v2)
 |_,_,_=>none:=by
 rw [qg _ _ _ _ rfl rfl]
 have h1:cr.dec fr h (AV.agg [y0,y1,y2]).cells=Option.map (fun p=>(⟨p.1,p.2.1,p.2.2⟩:bk)) ((iz (ca bf) (iz (ca c8) (ca bg))).dec fr h [y0,y1,y2]):=rfl
 rw [h1]
 simp only [M0,ug,n6,ur,ri,ta,re,List.take_succ_cons,List.take_zero,List.drop_succ_cons,List.drop_zero,He,G4]
 cases (ek bf fr h y0)<;>cases (ek c8 fr h y1)<;>cases (ek bg fr h y2)<;>rfl
structure C1 where
 kind:Int
 node:Name
 wv:Name
def zt (kind:Int) (node:Name) (wv:Name):C1:=⟨kind,node,wv⟩
theorem ahl (kind node wv):(zt kind node wv).node=node:=id rfl
def sm:dn C1:=vv (iz (ay .u8) (iz aw aw)) (fun x=>(x.kind,x.node,x.wv)) (fun p=>⟨p.1,p.2.1,p.2.2⟩) (fun _=>rfl) (fun _=>rfl)
theorem Iq (l:Bool) (x:C1):sm.val l x = .agg [.sc (.int .u8 x.kind),.vl l 1 (x.node.map (aq.val l)),.vl l 1 (x.wv.map (aq.val l))]:=id rfl
theorem S2 (fr:Bool) (h:Tr bh) (y0 y1 y2:AV):sm.fw fr h (.agg [y0,y1,y2])=match (ay .u8).dec fr h [y0],ek aq fr h y1,ek aq fr h y2 with
 |some v0,some v1,some v2=>some (zt v0 v1 v2)
 |_,_,_=>none:=by
 rw [qg _ _ _ _ rfl rfl]
 have h1:sm.dec fr h (AV.agg [y0,y1,y2]).cells=Option.map (fun p=>(⟨p.1,p.2.1,p.2.2⟩:C1)) ((iz (ay .u8) (iz aw aw)).dec fr h [y0,y1,y2]):=rfl
 rw [h1]
 simp only [M0,ug,n6,ur,ri,ta,re,List.take_succ_cons,List.take_zero,List.drop_succ_cons,List.drop_zero,He,G4]
 cases ((ay .u8).dec fr h [y0])<;>cases (ek aq fr h y1)<;>cases (ek aq fr h y2)<;>rfl
structure tu where
 turn:Int
 ar:List bo
 to:Name
def Ab (turn:Int) (ar:List bo) (to:Name):tu:=⟨turn,ar,to⟩
theorem ams (x:tu):Ab x.turn x.ar x.to=x:=id rfl
theorem aus (turn ar to):(Ab turn ar to).to=to:=id rfl
def oj:dn tu:=vv (iz (ay .u8) (iz (ca ak) aw)) (fun x=>(x.turn,x.ar,x.to)) (fun p=>⟨p.1,p.2.1,p.2.2⟩) (fun _=>rfl) (fun _=>rfl)
theorem Rb (l:Bool) (x:tu):oj.val l x = .agg [.sc (.int .u8 x.turn),.vl l 5 (x.ar.map (ak.val l)),.vl l 1 (x.to.map (aq.val l))]:=id rfl
theorem Yp (l:Bool) (x:tu):oj.cells l x=[.sc (.int .u8 x.turn),.vl l 5 (x.ar.map (ak.val l)),.vl l 1 (x.to.map (aq.val l))]:=id rfl
theorem Xv:oj.sz=3:=id rfl
theorem Ia (fr:Bool) (h:Tr bh) (y0 y1 y2:AV):oj.fw fr h (.agg [y0,y1,y2])=match (ay .u8).dec fr h [y0],ek ak fr h y1,ek aq fr h y2 with
 |some v0,some v1,some v2=>some (Ab v0 v1 v2)
 |_,_,_=>none:=by
 rw [qg _ _ _ _ rfl rfl]
 have h1:oj.dec fr h (AV.agg [y0,y1,y2]).cells=Option.map (fun p=>(⟨p.1,p.2.1,p.2.2⟩:tu)) ((iz (ay .u8) (iz (ca ak) aw)).dec fr h [y0,y1,y2]):=rfl
 rw [h1]
 simp only [M0,ug,n6,ur,ri,ta,re,List.take_succ_cons,List.take_zero,List.drop_succ_cons,List.drop_zero,He,G4]
 cases ((ay .u8).dec fr h [y0])<;>cases (ek ak fr h y1)<;>cases (ek aq fr h y2)<;>rfl
theorem O2 (fr:Bool) (h:Tr bh) (y0 y1 y2:AV):oj.dec fr h [y0,y1,y2]=match (ay .u8).dec fr h [y0],ek ak fr h y1,ek aq fr h y2 with
 |some v0,some v1,some v2=>some (Ab v0 v1 v2)
 |_,_,_=>none:=(Je oj fr h _ rfl).trans (Ia fr h y0 y1 y2)
structure vq where
 z:be
 e:Int
def mkL (z:be) (e:Int):vq:=⟨z,e⟩
theorem ayh (z e):(mkL z e).z=z:=id rfl
def nm:dn vq:=vv (iz bf (ay .i64)) (fun x=>(x.z,x.e)) (fun p=>⟨p.1,p.2⟩) (fun _=>rfl) (fun _=>rfl)
theorem Cj (l:Bool) (x:vq):nm.cells l x=[.vl l 1 (x.z.origin.map (aq.val l)),.vl l 5 (x.z.ar.map (ak.val l)),.sc (.int .i64 x.e)]:=id rfl
theorem Wu:nm.sz=3:=id rfl
theorem aks (fr:Bool) (h:Tr bh) (y00 y01 y1:AV):nm.fw fr h (.agg [y00,y01,y1])=match bf.fw fr h (.agg [y00,y01]),(ay .i64).dec fr h [y1] with
 |some v0,some v1=>some (mkL v0 v1)
 |_,_=>none:=by
 rw [qg _ _ _ _ rfl rfl]
 have h1:nm.dec fr h (AV.agg [y00,y01,y1]).cells=Option.map (fun p=>(⟨p.1,p.2⟩:vq)) ((iz bf (ay .i64)).dec fr h [y00,y01,y1]):=rfl
 rw [h1]
 simp only [M0,ug,n6,ur,ri,ta,re,List.take_succ_cons,List.take_zero,List.drop_succ_cons,List.drop_zero,He,G4,Kf,Je bf fr h _ rfl]
 cases (bf.fw fr h (.agg [y00,y01]))<;>cases ((ay .i64).dec fr h [y1])<;>rfl
theorem Np (fr:Bool) (h:Tr bh) (y00 y01 y1:AV):nm.dec fr h [y00,y01,y1]=match bf.fw fr h (.agg [y00,y01]),(ay .i64).dec fr h [y1] with
 |some v0,some v1=>some (mkL v0 v1)
 |_,_=>none:=(Je nm fr h _ rfl).trans (aks fr h y00 y01 y1)
structure ph where
 Hf:Int
 aa:Bool
 answer:List bo
 authority:List bo
 n7:List bo
def Bm (Hf:Int) (aa:Bool) (answer:List bo) (authority:List bo) (n7:List bo):ph:=⟨Hf,aa,answer,authority,n7⟩
def qi:dn ph:=vv (iz (ay .i64) (iz bn (iz (ca ak) (iz (ca ak) (ca ak))))) (fun x=>(x.Hf,x.aa,x.answer,x.authority,x.n7)) (fun p=>⟨p.1,p.2.1,p.2.2.1,p.2.2.2.1,p.2.2.2.2⟩) (fun _=>rfl) (fun _=>rfl)
theorem Gz (l:Bool) (x:ph):qi.val l x = .agg [.sc (.int .i64 x.Hf),.sc (.bool x.aa),.vl l 5 (x.answer.map (ak.val l)),.vl l 5 (x.authority.map (ak.val l)),.vl l 5 (x.n7.map (ak.val l))]:=id rfl
theorem M2 (fr:Bool) (h:Tr bh) (y0 y1 y2 y3 y4:AV):qi.fw fr h (.agg [y0,y1,y2,y3,y4])=match (ay .i64).dec fr h [y0],bn.dec fr h [y1],ek ak fr h y2,ek ak fr h y3,ek ak fr h y4 with
 |some v0,some v1,some v2,some v3,some v4=>some (Bm v0 v1 v2 v3 v4)
 |_,_,_,_,_=>none:=by
 rw [qg _ _ _ _ rfl rfl]
 have h1:qi.dec fr h (AV.agg [y0,y1,y2,y3,y4]).cells=Option.map (fun p=>(⟨p.1,p.2.1,p.2.2.1,p.2.2.2.1,p.2.2.2.2⟩:ph)) ((iz (ay .i64) (iz bn (iz (ca ak) (iz (ca ak) (ca ak))))).dec fr h [y0,y1,y2,y3,y4]):=rfl
 rw [h1]
 simp only [M0,ug,n6,ur,ri,ta,re,List.take_succ_cons,List.take_zero,List.drop_succ_cons,List.drop_zero,He,G4]
 cases ((ay .i64).dec fr h [y0])<;>cases (bn.dec fr h [y1])<;>cases (ek ak fr h y2)<;>cases (ek ak fr h y3)<;>cases (ek ak fr h y4)<;>rfl
theorem ae:type_of% @Mc∧type_of% @Ma∧type_of% @Sc∧type_of% @anc∧type_of% @md5∧type_of% @dv2∧type_of% @dv4∧type_of% @dv5∧type_of% @agi∧type_of% @aiv∧type_of% @ame∧type_of% @Ti∧type_of% @Ue∧type_of% @aDw∧type_of% @Nn∧type_of% @Ml∧type_of% @Q7∧type_of% @wq∧type_of% @Av∧type_of% @amv∧type_of% @jq∧type_of% @aai∧type_of% @Wh∧type_of% @So∧type_of% @al0∧type_of% @Ow∧type_of% @gz∧type_of% @Kf∧type_of% @Ih∧type_of% @S4∧type_of% @Xw∧type_of% @ama∧type_of% @ed∧type_of% @M9∧type_of% @ahl∧type_of% @Iq∧type_of% @S2∧type_of% @ams∧type_of% @aus∧type_of% @O2∧type_of% @Rb∧type_of% @Xv∧type_of% @Ia∧type_of% @ayh∧type_of% @Np∧type_of% @Wu∧type_of% @Gz∧type_of% @M2:=
 ⟨@Mc,@Ma,@Sc,@anc,@md5,@dv2,@dv4,@dv5,@agi,@aiv,@ame,@Ti,@Ue,@aDw,@Nn,@Ml,@Q7,@wq,@Av,@amv,@jq,@aai,@Wh,@So,@al0,@Ow,@gz,@Kf,@Ih,@S4,@Xw,@ama,@ed,@M9,@ahl,@Iq,@S2,@ams,@aus,@O2,@Rb,@Xv,@Ia,@ayh,@Np,@Wu,@Gz,@M2⟩
end
end Go.Vm
end
section
namespace Go.Proofs.YtajammoepjpiiaaGreat
open Go.Vm
set_option maxRecDepth 2000000
noncomputable def Cr (t:UInt16) (l:List c0) (d:c0):Bool:=l.any fun x=>P1 t x d
theorem aDn (t:UInt16) (l:List c0) (d:c0) (hl:∀ x ∈ l,dy x) (hn:l.length≤16777216) (hd:dy d):wl PP [] 0 (Tryz.f118.body.getD .skip) (dj PP Tryz.f118.results.toList (fun r st=>(r1 bn).get true st.h r=some (Cr t l d))) (b9 0 [da.val false t,(ca bz).val false l,bz.val false d]) (bq []):=by
 unfold Tryz.f118
 simp only [lu,ku]
 simp only [↓wR,RA,simprocAttr,TF,ae]
 refine bt (T:=[]) (aj.nil PP) mixed Tryz.func148 rfl (by kernel_rfl) (by kernel_rfl) (by kernel_rfl) (by kernel_rfl) ?_;unfold Tryz.f148
 simp only [↓wR,RA,simprocAttr,TF,ae]
 refine bt (T:=[]) (aj.nil PP) mixed Tryz.func174 rfl (by kernel_rfl) (by kernel_rfl) (by kernel_rfl) (by kernel_rfl) ?_;unfold Tryz.f174
 simp only [↓wR,RA,simprocAttr,TF,ae]
 refine di [0,1,7,8] (fun (i:Nat)=>[.vl false 4 (l.map (bz.val false)),.fn (.func 149) [] [.ptr 0 0,.ptr 1 0],.sc (.int .i64 (l.length)),.sc (.int .i64 (i))]) (fun _=>[some (.row [.sc (.int .u16 t.toNat)] 0 2 28),some (.row [.vl false 1 (d.names.map (aw.val false)),.vl false 1 (d.nums.map (bg.val false)),.vl false 1 (d.texts.map (aq.val false)),.vl false 1 (d.raw.map (cj.val false))] 0 2 77)]) (fun i=>i≤l.length∧Cr t l d=Cr t (l.drop i) d) (fun i=>l.length - i) 0 ⟨Nat.zero_le _,rfl⟩ (by simp only [↓wR,RA,simprocAttr,TF,ae]<;>rfl) (by simp only [↓wR,RA,simprocAttr,TF,ae]<;>rfl) ?_
 rintro i ⟨hi,hx⟩
 simp only [↓wR,RA,simprocAttr,TF,ae]
 rw [bm];refine ⟨fun h=>?_,fun h=>?_⟩
 ·obtain ⟨c,hc,hd1,hlt⟩:=dv (decide_eq_true h)
  have hx':Cr t l d=(P1 t c d || Cr t (l.drop (i+1)) d):=by rw [hx,hd1];rfl
  simp only [↓wR,RA,simprocAttr,TF,ae,h,hc];repeat (simp (disch:=omega) only [ah,cb,cd,cg,cf];try simp only [↓wR,RA,simprocAttr,TF,ae,h,hc])
  refine bt (T:=[axw]) (aj.cons (ai ac2) (aj.nil PP)) mixed Tryz.func149 rfl (by kernel_rfl) (by kernel_rfl) (by kernel_rfl) (by kernel_rfl) ?_;unfold Tryz.f149
  simp only [↓wR,RA,simprocAttr,TF,ae,Du,hl c (List.mem_of_getElem? hc),hd]
  rw [br];refine ⟨fun h1=>?_,fun h1=>?_⟩
  ·rw [h1,Bool.true_or] at hx'
   simp only [↓wR,RA,simprocAttr,TF,ae,h1]
   rw [hx']
   done
  ·rw [h1,Bool.false_or] at hx'
   simp only [↓wR,RA,simprocAttr,TF,ae,h1];repeat (simp (disch:=omega) only [ah,cb,cd,cg,cf];try simp only [↓wR,RA,simprocAttr,TF,ae,h1])
   exact ⟨i+1,⟨hlt,hx'⟩,by omega,by (first|rfl|trivial|omega|((try (simp (disch:=omega) only [ah]));(try (simp only [FB]));first|done|rfl|omega))⟩
 ·rw [dz (decide_eq_false h)] at hx
  simp only [↓wR,RA,simprocAttr,TF,ae,h]
  rw [hx];rfl
def rz (l:List c0):Prop:=fp v8 l≤16777216
instance (l:List c0):Decidable (rz l):=inferInstanceAs (Decidable (_≤_))
theorem rz.mem {l:List c0} (h:rz l):∀ x ∈ l,dy x:=fun x hx=>by
 have h1:v8 x<fp v8 l:=rp hx
 unfold rz at h;unfold dy;omega
theorem rz.len {l:List c0} (h:rz l):l.length≤16777216:=Nat.le_trans (ru v8 l) h
theorem Tq {α:Type} (f : α→Nat) (l:List α) (i:Nat):fp f (l.take i)≤fp f l:=by
 induction l generalizing i with
 |nil=>simp
 |cons a l ih=>
  cases i with
  |zero=>exact Nat.zero_le _
  |succ i=>have:=ih i;simp only [fp,List.take_succ_cons,List.foldr_cons] at this ⊢;omega
theorem rz.take {l:List c0} (h:rz l) (i:Nat):rz (l.take i):=Nat.le_trans (Tq v8 l i) h
noncomputable def P9 (x:UInt16 × List c0 × c0 × Unit):Option AV:=if rz x.2.1∧dy x.2.2.1 then some ((r1 bn).E true (Cr x.1 x.2.1 x.2.2.1)) else none
set_option maxRecDepth 2000000 in
theorem aah (x:UInt16 × List c0 × c0 × Unit) (r:AV) (h:P9 x=some r):bc PP 118 ((aC da (aC (ca bz) (aC bz a0))).E x) r:=by
 by_cases hc:rz x.2.1∧dy x.2.2.1
 case neg=>simp only [P9,if_neg hc] at h;cases h
 simp only [P9,if_pos hc] at h
 cases h
 exact ba (aj.nil PP) Tryz.func118 (by kernel_rfl) (by kernel_rfl) (by kernel_rfl) (Nat.le_of_ble_eq_true (by kernel_rfl)) (r1 bn) true (Cr x.1 x.2.1 x.2.2.1) (aDn x.1 x.2.1 x.2.2.1 hc.1.mem hc.1.len hc.2)
noncomputable abbrev aCm:Nat × Bool × (List AV→M AV):=(118,true,cx (aC da (aC (ca bz) (aC bz a0))) P9)
def lh (s:bo):Nat:=bw s.owner+fp v8 s.data
def dq (s:bo):Prop:=lh s≤16777216
instance (s:bo):Decidable (dq s):=inferInstanceAs (Decidable (_≤_))
theorem dq.owner {s:bo} (h:dq s):bj s.owner:=by unfold dq lh at h;unfold bj;omega
theorem dq.data {s:bo} (h:dq s):rz s.data:=by unfold dq lh at h;unfold rz;omega
noncomputable def th (t:UInt16):List c0→List c0→Int
 |_,[]=>0
 |pre,d::r=>if gj t d≠0 then gj t d else if Cr t pre d=true then 10 else th t (pre++[d]) r
noncomputable def qj (s:bo):Int:=
 if dt s.owner≠0 then dt s.owner else if s.data.length=0 then 9 else if 512<s.data.length then 3 else th s.type [] s.data
theorem akx (t:UInt16) {l:List c0} {i:Nat} {c:c0} (hc:l[i]? = some c):th t (l.take i) (l.drop i)=if gj t c≠0 then gj t c else if Cr t (l.take i) c=true then 10 else th t (l.take (i+1)) (l.drop (i+1)):=by
 obtain ⟨hi,rfl⟩:=List.getElem?_eq_some_iff.1 hc
 rw [List.drop_eq_getElem_cons hi,th,List.take_succ_eq_append_getElem hi]
theorem akc (s:bo) (hs:dq s):wl PP [en,Ms,aCm] 0 (Tryz.f151.body.getD .skip) (dj PP Tryz.f151.results.toList (fun r st=>(r1 (ay .i64)).get true st.h r=some (qj s))) (b9 0 [ak.val false s]) (bq []):=by
 have ho:=hs.owner
 have hd:=hs.data
 have hn:=hd.len
 unfold Tryz.f151
 simp only [jq]
 simp only [↓wR,RA,simprocAttr,TF,ae,mz,ho.fit]
 unfold qj
 rw [br];refine ⟨fun h=>?_,fun h=>?_⟩
 ·have he:dt s.owner≠0:=by simpa using h
  rw [if_pos he]
  simp only [↓wR,RA,simprocAttr,TF,ae,h]
 have he:dt s.owner=0:=by simpa using h
 rw [if_neg (by omega)]
 simp only [↓wR,RA,simprocAttr,TF,ae,h]
 rw [c9];refine ⟨fun ⟨h1,e1⟩=>?_,fun ⟨h1,e1⟩=>?_⟩
 ·rw [if_pos (by omega)]
  simp only [↓wR,RA,simprocAttr,TF,ae,h1]
 rw [if_neg (by omega)]
 simp only [↓wR,RA,simprocAttr,TF,ae,h1]
 rw [bm];refine ⟨fun h2=>?_,fun h2=>?_⟩
 ·rw [if_pos (by omega)]
  simp only [↓wR,RA,simprocAttr,TF,ae,h2]
 rw [if_neg (by omega)]
 simp only [↓wR,RA,simprocAttr,TF,ae,h2]
 refine di [1,24,25,26] (fun (i:Nat)=>[.ptr 0 0,.vl false 4 (s.data.map (bz.val false)),.sc (.int .i64 (s.data.length)),.sc (.int .i64 (i))]) (fun _=>[some (.row [.vl false 1 (s.owner.map (aq.val false)),.sc (.int .u16 s.type.toNat),.sc (.int .u16 s.cls.toNat),.sc (.int .u32 s.ot.toNat),.vl false 4 (s.data.map (bz.val false))] 0 2 40)]) (fun i=>i≤s.data.length∧th s.type [] s.data=th s.type (s.data.take i) (s.data.drop i)) (fun i=>s.data.length - i) 0 ⟨Nat.zero_le _,rfl⟩ (by simp only [↓wR,RA,simprocAttr,TF,ae]<;>rfl) (by simp only [↓wR,RA,simprocAttr,TF,ae]<;>rfl) ?_
 rintro i ⟨hi,hx⟩
 simp only [↓wR,RA,simprocAttr,TF,ae]
 rw [bm];refine ⟨fun h3=>?_,fun h3=>?_⟩
 ·obtain ⟨c,hc,hd1,hlt⟩:=dv (decide_eq_true h3)
  rw [akx _ hc] at hx
  have hcs:=hd.mem c (List.mem_of_getElem? hc)
  simp only [↓wR,RA,simprocAttr,TF,ae,h3,hc,sy,hcs]
  rw [br];refine ⟨fun h4=>?_,fun h4=>?_⟩
  ·have he4:gj s.type c≠0:=by simpa using h4
   rw [if_pos he4] at hx
   simp only [↓wR,RA,simprocAttr,TF,ae,h4]
   rw [hx]
  ·have he4:gj s.type c=0:=by simpa using h4
   rw [if_neg (by omega)] at hx
   simp only [↓wR,RA,simprocAttr,TF,ae,h4]
   refine ⟨by kernel_rfl,.inl ?_⟩
   simp only [↓wR,RA,simprocAttr,TF,ae,hi,P9,hd.take i,hcs]
   refine ⟨by kernel_rfl,?_⟩
   rw [br];refine ⟨fun h5=>?_,fun h5=>?_⟩
   ·rw [if_pos h5] at hx
    simp only [↓wR,RA,simprocAttr,TF,ae,h5]
    rw [hx]
   ·rw [if_neg (by rw [h5];decide)] at hx
    simp only [↓wR,RA,simprocAttr,TF,ae,h5];repeat (simp (disch:=omega) only [ah,cb,cd,cg,cf];try simp only [↓wR,RA,simprocAttr,TF,ae,h5])
    exact ⟨i+1,⟨hlt,hx⟩,by omega,by (first|rfl|trivial|omega|((try (simp (disch:=omega) only [ah]));(try (simp only [FB]));first|done|rfl|omega))⟩
 ·rw [dz (decide_eq_false h3)] at hx
  simp only [↓wR,RA,simprocAttr,TF,ae,h3]
  rw [hx];rfl
noncomputable def z8 (x:bo × Unit):Option AV:=if dq x.1 then some ((r1 (ay .i64)).E true (qj x.1)) else none
set_option maxRecDepth 2000000 in
theorem Mk (x:bo × Unit) (r:AV) (h:z8 x=some r):bc PP 151 ((aC ak a0).E x) r:=by
 by_cases hc:dq x.1
 case neg=>simp only [z8,if_neg hc] at h;cases h
 simp only [z8,if_pos hc] at h
 cases h
 exact ba (aj.cons (ai ld) (aj.cons (ai B8) (aj.cons (ai aah) (aj.nil PP)))) Tryz.func151 (by kernel_rfl) (by kernel_rfl) (by kernel_rfl) (Nat.le_of_ble_eq_true (by kernel_rfl)) (r1 (ay .i64)) true (qj x.1) (akc x.1 hc)
noncomputable abbrev g6:Nat × Bool × (List AV→M AV):=(151,true,cx (aC ak a0) z8)
theorem ann (s:bo) (hs:dq s):wl PP [qf,aw4] 0 (Tryz.f37.body.getD .skip) (dj PP Tryz.f37.results.toList (fun r st=>(r1 ak).get true st.h r=some s)) (b9 0 [ak.val false s]) (bq []):=by
 have ho:=hs.owner
 have hd:=hs.data
 have hn:=hd.len
 unfold Tryz.f37
 simp only [jq]
 simp only [↓wR,RA,simprocAttr,TF,ae,j8,ho]
 refine ji [2,13,14,15,3] (fun (x:List c0)=>[.ptr 0 0,.vl false 4 (s.data.map (bz.val false)),.sc (.int .i64 (s.data.length)),.sc (.int .i64 (x.length)),.ptr 1 0]) (fun x=>[some (.row [.sc (.slice none 0 0),.sc (.int .u16 0),.sc (.int .u16 0),.sc (.int .u32 0),.sc (.slice none 0 0)] 0 2 40),some (.row [aw.val true s.owner,.sc (.int .u16 s.type.toNat),.sc (.int .u16 s.cls.toNat),.sc (.int .u32 s.ot.toNat),.sl 2 0 x.length 4] 0 2 40),some (.row (cellsOf bz true x) 0 0 77)]) (fun x=>x.length≤s.data.length∧x++s.data.drop x.length=s.data) (fun x=>s.data.length - x.length) [] ⟨Nat.zero_le _,rfl⟩ (by simp only [↓wR,RA,simprocAttr,TF,ae];(refine jt.lax [] (by first|exact Nat.le_of_ble_eq_true rfl|(simp [cw];omega)) ?_ ?_<;>repeat' first|exact fc.nil|exact c7.nil|exact gu.same _|exact gu.nil _ _ _|exact gu.se _ _|exact c7.refl _ _|apply fc.cons|apply c7.ghost|apply c7.same|apply c7.row)) ?_
 rintro x ⟨hi,hx⟩
 simp only [↓wR,RA,simprocAttr,TF,ae]
 rw [bm];refine ⟨fun h=>?_,fun h=>?_⟩
 ·obtain ⟨c,hc,hd1,hlt⟩:=dv (decide_eq_true h)
  rw [hd1] at hx
  have hcs:=hd.mem c (List.mem_of_getElem? hc)
  simp only [↓wR,RA,simprocAttr,TF,ae,h,hc]
  refine ⟨by kernel_rfl,.inl ?_⟩
  have hlim:(x.length * 4+4) * 96≤140737488355328:=by omega
  simp only [↓wR,RA,simprocAttr,TF,ae,Db,hcs,hlim]
  refine ⟨by kernel_rfl,x++[c],⟨by simp;omega,by simpa using hx⟩,by simp;omega,by (first|rfl|trivial|omega|((try (simp (disch:=omega) only [ah]));(try (simp only [FB]));first|done|rfl|omega)),?_⟩
  rw [Mf,List.length_append];rfl
 ·rw [dz (decide_eq_false h)] at hx
  rw [List.append_nil] at hx
  subst hx
  simp only [↓wR,RA,simprocAttr,TF,ae,h]
noncomputable def te (x:bo × Unit):Option AV:=if dq x.1 then some ((r1 ak).E true (x.1)) else none
set_option maxRecDepth 2000000 in
theorem Ax (x:bo × Unit) (r:AV) (h:te x=some r):bc PP 37 ((aC ak a0).E x) r:=by
 by_cases hc:dq x.1
 case neg=>simp only [te,if_neg hc] at h;cases h
 simp only [te,if_pos hc] at h
 cases h
 exact ba (aj.cons (ai ky) (aj.cons (ai ack) (aj.nil PP))) Tryz.func37 (by kernel_rfl) (by kernel_rfl) (by kernel_rfl) (Nat.le_of_ble_eq_true (by kernel_rfl)) (r1 ak) true (x.1) (ann x.1 hc)
noncomputable abbrev E4:Nat × Bool × (List AV→M AV):=(37,true,cx (aC ak a0) te)
def xn (z:be):Nat:=bw z.origin+fp lh z.ar
def cy (z:be):Prop:=xn z≤16777216
instance (z:be):Decidable (cy z):=inferInstanceAs (Decidable (_≤_))
theorem cy.origin {z:be} (h:cy z):bj z.origin:=by unfold cy xn at h;unfold bj;omega
theorem cy.set {z:be} (h:cy z):∀ s ∈ z.ar,dq s:=fun s hs=>by
 have h1:lh s<fp lh z.ar:=rp hs
 unfold cy xn at h;unfold dq;omega
theorem cy.len {z:be} (h:cy z):z.ar.length≤16777216:=by have:=ru lh z.ar;unfold cy xn at h;omega
def B6 (n top:Name):Bool:=decide (top.length<n.length) && dr n top
theorem awi (n top:Name) (hn:bj n) (ht:bj top):wl PP [uv] 0 (Tryz.f131.body.getD .skip) (dj PP Tryz.f131.results.toList (fun r st=>(r1 bn).get true st.h r=some (B6 n top))) (b9 0 [aw.val false n,aw.val false top]) (bq []):=by
 unfold Tryz.f131
 simp only [dm]
 simp only [↓wR,RA,simprocAttr,TF,ae]
 unfold B6
 rw [bm];refine ⟨fun h=>?_,fun h=>?_⟩
 ·rw [decide_eq_true (show top.length<n.length by omega)]
  simp only [↓wR,RA,simprocAttr,TF,ae,h,mn,hn,ht]
 ·rw [decide_eq_false (show ¬ top.length<n.length by omega)]
  simp only [↓wR,RA,simprocAttr,TF,ae,h]
  rfl
noncomputable def Fa (x:Name × Name × Unit):Option AV:=if bj x.1∧bj x.2.1 then some ((r1 bn).E true (B6 x.1 x.2.1)) else none
set_option maxRecDepth 2000000 in
theorem Ri (x:Name × Name × Unit) (r:AV) (h:Fa x=some r):bc PP 131 ((aC aw (aC aw a0)).E x) r:=by
 by_cases hc:bj x.1∧bj x.2.1
 case neg=>simp only [Fa,if_neg hc] at h;cases h
 simp only [Fa,if_pos hc] at h
 cases h
 exact ba (aj.cons (ai nj) (aj.nil PP)) Tryz.func131 (by kernel_rfl) (by kernel_rfl) (by kernel_rfl) (Nat.le_of_ble_eq_true (by kernel_rfl)) (r1 bn) true (B6 x.1 x.2.1) (awi x.1 x.2.1 hc.1 hc.2)
noncomputable abbrev ar8:Nat × Bool × (List AV→M AV):=(131,true,cx (aC aw (aC aw a0)) Fa)
def kg (z:be) (n:Name):List bo:=z.ar.filter fun s=>fi s.owner n
theorem O0 {l:List bo} {p:bo→Bool} {i:Nat} {c:bo} (h:l.drop i=c::l.drop (i+1)):(l.drop i).filter p=(if p c=true then [c] else [])++(l.drop (i+1)).filter p:=by
 rw [h,List.filter_cons];split<;>rfl
theorem u0 {l:List bo} (p:bo→Bool):(l.filter p).length≤l.length:=List.length_filter_le _ _
theorem aFi (z:be) (n:Name) (hz:cy z) (hn:bj n):wl PP [dx,E4] 0 (Tryz.f96.body.getD .skip) (dj PP Tryz.f96.results.toList (fun r st=>(r1 (ca ak)).get true st.h r=some (kg z n))) (b9 0 [bf.val false z,aw.val false n]) (bq []):=by
 have hl:=hz.len
 unfold Tryz.f96
 simp only [gz,dm]
 simp only [↓wR,RA,simprocAttr,TF,ae]
 refine ji [1,9,10,11,5] (fun (x:Nat × List bo)=>[.vl false 1 (n.map (aq.val false)),.vl false 5 (z.ar.map (ak.val false)),.sc (.int .i64 (z.ar.length)),.sc (.int .i64 (x.1)),.sl 0 0 x.2.length 5]) (fun x=>[some (.row (cellsOf ak true x.2) 0 0 40)]) (fun x=>x.1≤z.ar.length∧x.2++(z.ar.drop x.1).filter (fun s=>fi s.owner n)=kg z n) (fun x=>z.ar.length - x.1) (0,[]) ⟨Nat.zero_le _,rfl⟩ (by simp only [↓wR,RA,simprocAttr,TF,ae];(refine jt.lax [] (by first|exact Nat.le_of_ble_eq_true rfl|(simp [cw];omega)) ?_ ?_<;>repeat' first|exact fc.nil|exact c7.nil|exact gu.same _|exact gu.nil _ _ _|exact gu.se _ _|exact c7.refl _ _|apply fc.cons|apply c7.ghost|apply c7.same|apply c7.row)) ?_
 rintro ⟨i,x⟩ ⟨hi,hx⟩
 simp only at hi hx
 have hxl:x.length≤z.ar.length:=by
  have h1:=u0 (l:=z.ar) (fun s=>fi s.owner n)
  have h2:=congrArg List.length hx
  simp only [List.length_append,kg] at h2
  omega
 simp only [↓wR,RA,simprocAttr,TF,ae]
 rw [bm];refine ⟨fun h=>?_,fun h=>?_⟩
 ·obtain ⟨c,hc,hd1,hlt⟩:=dv (decide_eq_true h)
  rw [O0 hd1] at hx
  have hcs:=hz.set c (List.mem_of_getElem? hc)
  simp only [↓wR,RA,simprocAttr,TF,ae,h,hc,jc,hcs.owner,hn]
  rw [br];refine ⟨fun h1=>?_,fun h1=>?_⟩
  ·rw [if_pos h1] at hx
   have hlim:(x.length * 5+5) * 64≤140737488355328:=by omega
   simp only [↓wR,RA,simprocAttr,TF,ae,h1,te,hcs,hlim];repeat (simp (disch:=omega) only [ah,cb,cd,cg,cf];try simp only [↓wR,RA,simprocAttr,TF,ae,h1,te,hcs,hlim])
   refine ⟨(i+1,x++[c]),⟨hlt,by rw [← hx];simp⟩,by simp;omega,by (first|rfl|trivial|omega|((try (simp (disch:=omega) only [ah]));(try (simp only [FB]));first|done|rfl|omega)),?_⟩
   rw [Bg]
  ·rw [if_neg (by rw [h1];decide)] at hx
   simp only [↓wR,RA,simprocAttr,TF,ae,h1];repeat (simp (disch:=omega) only [ah,cb,cd,cg,cf];try simp only [↓wR,RA,simprocAttr,TF,ae,h1])
   exact ⟨(i+1,x),⟨hlt,hx⟩,by simp;omega,by (first|rfl|trivial|omega|((try (simp (disch:=omega) only [ah]));(try (simp only [FB]));first|done|rfl|omega)),by (first|rfl|trivial|omega|((try (simp (disch:=omega) only [ah]));(try (simp only [FB]));first|done|rfl|omega))⟩
 ·rw [dz (decide_eq_false h)] at hx
  rw [List.filter_nil,List.append_nil] at hx
  subst hx
  simp only [↓wR,RA,simprocAttr,TF,ae,h]
noncomputable def aga (x:be × Name × Unit):Option AV:=if cy x.1∧bj x.2.1 then some ((r1 (ca ak)).E true (kg x.1 x.2.1)) else none
set_option maxRecDepth 2000000 in
theorem aww (x:be × Name × Unit) (r:AV) (h:aga x=some r):bc PP 96 ((aC bf (aC aw a0)).E x) r:=by
 by_cases hc:cy x.1∧bj x.2.1
 case neg=>simp only [aga,if_neg hc] at h;cases h
 simp only [aga,if_pos hc] at h
 cases h
 exact ba (aj.cons (ai gi) (aj.cons (ai Ax) (aj.nil PP))) Tryz.func96 (by kernel_rfl) (by kernel_rfl) (by kernel_rfl) (Nat.le_of_ble_eq_true (by kernel_rfl)) (r1 (ca ak)) true (kg x.1 x.2.1) (aFi x.1 x.2.1 hc.1 hc.2)
noncomputable abbrev zAt:Nat × Bool × (List AV→M AV):=(96,true,cx (aC bf (aC aw a0)) aga)
def E9 (n:Name) (b:Option Name):Bool:=match b with|none=>true|some m=>decide (n.length<m.length)
def iq (z:be) (n:Name) (best:Option Name) (s:bo):Option Name:=
 if (decide ((s.type.toNat:Int)=2) && (B6 s.owner z.origin && (dr n s.owner && E9 s.owner best)))=true then some s.owner else best
def k8 (z:be) (n:Name):Option Name:=z.ar.foldl (iq z n) none
theorem abn {z:be} {n:Name} (hz:cy z):∀ (l:List bo) (b:Option Name),(∀ s ∈ l,s ∈ z.ar)→(∀ m,b=some m→bj m)→∀ m,l.foldl (iq z n) b=some m→bj m:=by
 intro l
 induction l with
 |nil=>intro b _ hb m hm;exact hb m hm
 |cons s l ih=>
  intro b hl hb m hm
  refine ih (iq z n b s) (fun x hx=>hl x (by simp [hx])) (fun q hq=>?_) m hm
  unfold iq at hq
  split at hq
  ·cases hq;exact (hz.set s (hl s (by simp))).owner
  ·exact hb q hq
theorem aEb (z:be) (n:Name) (hz:cy z) (hn:bj n):wl PP [uv,ar8,qf] 0 (Tryz.f86.body.getD .skip) (dj PP Tryz.f86.results.toList (fun r st=>(r2 aw bn).get true st.h r=some ((k8 z n).getD [],(k8 z n).isSome))) (b9 0 [bf.val false z,aw.val false n]) (bq []):=by
 have hl:=hz.len
 unfold Tryz.f86
 simp only [gz,dm]
 simp only [↓wR,RA,simprocAttr,TF,ae]
 refine bt (T:=[]) (aj.nil PP) mixed Tryz.func127 rfl (by kernel_rfl) (by kernel_rfl) (by kernel_rfl) (by kernel_rfl) ?_;unfold Tryz.f127
 simp only [↓wR,RA,simprocAttr,TF,ae]
 refine ⟨[2,3,6,7,10],?_⟩
 have hib:tq PP 154=some (Tryz.f154.ntmps,Tryz.f154.body.getD .skip):=by kernel_rfl
 simp only [↓wR,RA,simprocAttr,TF,ae,hib]
 refine ⟨by kernel_rfl,fun l=>?_⟩
 unfold Tryz.f154
 simp only [↓wR,RA,simprocAttr,TF,ae]
 refine Ui [0,2,7,8,9] (fun (x:Nat × Option Name)=>[.sc (.func (.yield l) #[] #[]),.ptr 5 0,.vl false 5 (z.ar.map (ak.val false)),.sc (.int .i64 (z.ar.length)),.sc (.int .i64 (x.1))]) (fun x=>[some (.row [.vl false 1 (z.origin.map (aq.val false)),.vl false 5 (z.ar.map (ak.val false))] 0 2 26),some (.row [.vl false 1 (n.map (aq.val false))] 0 2 23),some (.row [.vl false 1 ((x.2.getD []).map (aq.val false))] 0 2 23),some (.row [.sc (.bool (x.2.isSome))] 0 2 4),some (.row [.vl false 1 (z.origin.map (aq.val false)),.vl false 5 (z.ar.map (ak.val false))] 0 2 26),some (.row [.sc (.int .u16 2)] 0 2 28)]) (fun x=>x.1≤z.ar.length∧k8 z n=(z.ar.drop x.1).foldl (iq z n) x.2∧∀ m,x.2=some m→bj m) (fun x=>z.ar.length - x.1) (0,none) ⟨Nat.zero_le _,rfl,fun m hm=>by cases hm⟩ (by simp only [↓wR,RA,simprocAttr,TF,ae];(refine jt.lax [] (by first|exact Nat.le_of_ble_eq_true rfl|(simp [cw];omega)) ?_ ?_<;>repeat' first|exact fc.nil|exact c7.nil|exact gu.same _|exact gu.nil _ _ _|exact gu.se _ _|exact c7.refl _ _|apply fc.cons|apply c7.ghost|apply c7.same|apply c7.row)) ?_
 rintro ⟨i,b⟩ ⟨hi,hx,hb⟩
 simp only at hi hx hb
 simp only [↓wR,RA,simprocAttr,TF,ae]
 rw [ub];refine ⟨fun h=>?_,fun h=>?_⟩
 ·obtain ⟨c,hc,hd1,hlt⟩:=dv h
  have hcs:=hz.set c (List.mem_of_getElem? hc)
  have hstep:k8 z n=(z.ar.drop (i+1)).foldl (iq z n) (iq z n b c):=by rw [hx,hd1];rfl
  simp only [↓wR,RA,simprocAttr,TF,ae,h,hc]
  rw [ub];refine ⟨fun h2=>?_,fun h2=>?_⟩
  ·have e2:(c.type.toNat:Int)=2:=by simpa using h2
   simp only [↓wR,RA,simprocAttr,TF,ae,h2]
   refine my [0,2,7,8,9,17,19] ?_
   simp only [↓wR,RA,simprocAttr,TF,ae,py,je,Fa,hcs.owner,hz.origin]
   rw [br];refine ⟨fun h3=>?_,fun h3=>?_⟩
   ·simp only [↓wR,RA,simprocAttr,TF,ae,h3,mn,hcs.owner,hn]
    rw [br];refine ⟨fun h4=>?_,fun h4=>?_⟩
    ·cases b with
     |none=>
      have hb2:iq z n none c=some c.owner:=by simp [iq,e2,h3,h4,E9]
      rw [hb2] at hstep
      simp only [↓wR,RA,simprocAttr,TF,ae,h4,Option.isSome_none];repeat (simp (disch:=omega) only [ah,cb,cd,cg,cf];try simp only [↓wR,RA,simprocAttr,TF,ae,h4,Option.isSome_none])
      exact ⟨(i+1,some c.owner),⟨hlt,hstep,fun m hm=>by cases hm;exact hcs.owner⟩,by simp;omega,by (first|rfl|trivial|omega|((try (simp (disch:=omega) only [ah]));(try (simp only [FB]));first|done|rfl|omega)),by (first|rfl|trivial|omega|((try (simp (disch:=omega) only [ah]));(try (simp only [FB]));first|done|rfl|omega))⟩
     |some m=>
      simp only [↓wR,RA,simprocAttr,TF,ae,h4]
      rw [bm];refine ⟨fun h5=>?_,fun h5=>?_⟩
      ·have hb2:iq z n (some m) c=some c.owner:=by simp [iq,e2,h3,h4,E9];omega
       rw [hb2] at hstep
       simp only [↓wR,RA,simprocAttr,TF,ae,h5];repeat (simp (disch:=omega) only [ah,cb,cd,cg,cf];try simp only [↓wR,RA,simprocAttr,TF,ae,h5])
       exact ⟨(i+1,some c.owner),⟨hlt,hstep,fun m hm=>by cases hm;exact hcs.owner⟩,by simp;omega,by (first|rfl|trivial|omega|((try (simp (disch:=omega) only [ah]));(try (simp only [FB]));first|done|rfl|omega)),by (first|rfl|trivial|omega|((try (simp (disch:=omega) only [ah]));(try (simp only [FB]));first|done|rfl|omega))⟩
      ·have hb2:iq z n (some m) c=some m:=by simp [iq,e2,h3,h4,E9];omega
       rw [hb2] at hstep
       simp only [↓wR,RA,simprocAttr,TF,ae,h5];repeat (simp (disch:=omega) only [ah,cb,cd,cg,cf];try simp only [↓wR,RA,simprocAttr,TF,ae,h5])
       exact ⟨(i+1,some m),⟨hlt,hstep,hb⟩,by simp;omega,by (first|rfl|trivial|omega|((try (simp (disch:=omega) only [ah]));(try (simp only [FB]));first|done|rfl|omega)),by (first|rfl|trivial|omega|((try (simp (disch:=omega) only [ah]));(try (simp only [FB]));first|done|rfl|omega))⟩
    ·have hb2:iq z n b c=b:=by simp [iq,h4]
     rw [hb2] at hstep
     simp only [↓wR,RA,simprocAttr,TF,ae,h4];repeat (simp (disch:=omega) only [ah,cb,cd,cg,cf];try simp only [↓wR,RA,simprocAttr,TF,ae,h4])
     exact ⟨(i+1,b),⟨hlt,hstep,hb⟩,by simp;omega,by (first|rfl|trivial|omega|((try (simp (disch:=omega) only [ah]));(try (simp only [FB]));first|done|rfl|omega)),by (first|rfl|trivial|omega|((try (simp (disch:=omega) only [ah]));(try (simp only [FB]));first|done|rfl|omega))⟩
   ·have hb2:iq z n b c=b:=by simp [iq,h3]
    rw [hb2] at hstep
    simp only [↓wR,RA,simprocAttr,TF,ae,h3];repeat (simp (disch:=omega) only [ah,cb,cd,cg,cf];try simp only [↓wR,RA,simprocAttr,TF,ae,h3])
    exact ⟨(i+1,b),⟨hlt,hstep,hb⟩,by simp;omega,by (first|rfl|trivial|omega|((try (simp (disch:=omega) only [ah]));(try (simp only [FB]));first|done|rfl|omega)),by (first|rfl|trivial|omega|((try (simp (disch:=omega) only [ah]));(try (simp only [FB]));first|done|rfl|omega))⟩
  ·have e2:¬ (c.type.toNat:Int)=2:=by simpa using h2
   have hb2:iq z n b c=b:=by simp [iq,e2]
   rw [hb2] at hstep
   simp only [↓wR,RA,simprocAttr,TF,ae,h2];repeat (simp (disch:=omega) only [ah,cb,cd,cg,cf];try simp only [↓wR,RA,simprocAttr,TF,ae,h2])
   exact ⟨(i+1,b),⟨hlt,hstep,hb⟩,by simp;omega,by (first|rfl|trivial|omega|((try (simp (disch:=omega) only [ah]));(try (simp only [FB]));first|done|rfl|omega)),by (first|rfl|trivial|omega|((try (simp (disch:=omega) only [ah]));(try (simp only [FB]));first|done|rfl|omega))⟩
 ·rw [dz h] at hx
  simp only [↓wR,RA,simprocAttr,TF,ae,h]
  cases b with
  |none=>
   have hc0:k8 z n=none:=hx
   simp only [↓wR,RA,simprocAttr,TF,ae,Option.isSome_none]
   rw [hc0]
   rfl
  |some m=>
   have hc0:k8 z n=some m:=hx
   simp only [↓wR,RA,simprocAttr,TF,ae,j8,hb m rfl]
   rw [hc0]
   rfl
noncomputable def Eo (x:be × Name × Unit):Option AV:=if cy x.1∧bj x.2.1 then some ((r2 aw bn).E true (((k8 x.1 x.2.1).getD [],(k8 x.1 x.2.1).isSome))) else none
set_option maxRecDepth 2000000 in
theorem Ot (x:be × Name × Unit) (r:AV) (h:Eo x=some r):bc PP 86 ((aC bf (aC aw a0)).E x) r:=by
 by_cases hc:cy x.1∧bj x.2.1
 case neg=>simp only [Eo,if_neg hc] at h;cases h
 simp only [Eo,if_pos hc] at h
 cases h
 exact ba (aj.cons (ai nj) (aj.cons (ai Ri) (aj.cons (ai ky) (aj.nil PP)))) Tryz.func86 (by kernel_rfl) (by kernel_rfl) (by kernel_rfl) (Nat.le_of_ble_eq_true (by kernel_rfl)) (r2 aw bn) true (((k8 x.1 x.2.1).getD [],(k8 x.1 x.2.1).isSome)) (aEb x.1 x.2.1 hc.1 hc.2)
noncomputable abbrev aw1:Nat × Bool × (List AV→M AV):=(86,true,cx (aC bf (aC aw a0)) Eo)
def sg (z:be) (n:Name):Bool:=dr n z.origin && (fi n z.origin || z.ar.any fun s=>dr s.owner n)
theorem aBj (z:be) (n:Name) (hz:cy z) (hn:bj n):wl PP [uv,dx] 0 (Tryz.f109.body.getD .skip) (dj PP Tryz.f109.results.toList (fun r st=>(r1 bn).get true st.h r=some (sg z n))) (b9 0 [bf.val false z,aw.val false n]) (bq []):=by
 have hl:=hz.len
 unfold Tryz.f109
 simp only [gz,dm]
 simp only [↓wR,RA,simprocAttr,TF,ae,mn,hn,hz.origin]
 unfold sg
 rw [br];refine ⟨fun h=>?_,fun h=>?_⟩
 ·have h':dr n z.origin=false:=by simpa using h
  simp only [↓wR,RA,simprocAttr,TF,ae,h,h']
  rfl
 have h':dr n z.origin=true:=by simpa using h
 simp only [↓wR,RA,simprocAttr,TF,ae,h,h',jc,hn,hz.origin]
 rw [br];refine ⟨fun h2=>?_,fun h2=>?_⟩
 ·simp only [↓wR,RA,simprocAttr,TF,ae,h2]
 simp only [↓wR,RA,simprocAttr,TF,ae,h2]
 refine bt (T:=[]) (aj.nil PP) mixed Tryz.func112 rfl (by kernel_rfl) (by kernel_rfl) (by kernel_rfl) (by kernel_rfl) ?_;unfold Tryz.f112
 simp only [↓wR,RA,simprocAttr,TF,ae]
 refine bt (T:=[]) (aj.nil PP) mixed Tryz.func147 rfl (by kernel_rfl) (by kernel_rfl) (by kernel_rfl) (by kernel_rfl) ?_;unfold Tryz.f147
 simp only [↓wR,RA,simprocAttr,TF,ae]
 refine di [0,1,7,8] (fun (i:Nat)=>[.vl false 5 (z.ar.map (ak.val false)),.fn (.func 145) [] [.ptr 1 0],.sc (.int .i64 (z.ar.length)),.sc (.int .i64 (i))]) (fun _=>[some (.row [.vl false 1 (z.origin.map (aq.val false)),.vl false 5 (z.ar.map (ak.val false))] 0 2 26),some (.row [.vl false 1 (n.map (aq.val false))] 0 2 23)]) (fun i=>i≤z.ar.length∧(z.ar.any fun s=>dr s.owner n)=((z.ar.drop i).any fun s=>dr s.owner n)) (fun i=>z.ar.length - i) 0 ⟨Nat.zero_le _,rfl⟩ (by simp only [↓wR,RA,simprocAttr,TF,ae]<;>rfl) (by simp only [↓wR,RA,simprocAttr,TF,ae]<;>rfl) ?_
 rintro i ⟨hi,hx⟩
 simp only [↓wR,RA,simprocAttr,TF,ae]
 rw [bm];refine ⟨fun h3=>?_,fun h3=>?_⟩
 ·obtain ⟨c,hc,hd1,hlt⟩:=dv (decide_eq_true h3)
  rw [hd1,List.any_cons] at hx
  have hcs:=hz.set c (List.mem_of_getElem? hc)
  simp only [↓wR,RA,simprocAttr,TF,ae,h3,hc];repeat (simp (disch:=omega) only [ah,cb,cd,cg,cf];try simp only [↓wR,RA,simprocAttr,TF,ae,h3,hc])
  refine bt (T:=[uv]) (aj.cons (ai nj) (aj.nil PP)) mixed Tryz.func145 rfl (by kernel_rfl) (by kernel_rfl) (by kernel_rfl) (by kernel_rfl) ?_;unfold Tryz.f145
  simp only [↓wR,RA,simprocAttr,TF,ae,mn,hcs.owner,hn]
  rw [br];refine ⟨fun h4=>?_,fun h4=>?_⟩
  ·rw [h4,Bool.true_or] at hx
   simp only [↓wR,RA,simprocAttr,TF,ae,h4]
   rw [hx]
  ·rw [h4,Bool.false_or] at hx
   simp only [↓wR,RA,simprocAttr,TF,ae,h4];repeat (simp (disch:=omega) only [ah,cb,cd,cg,cf];try simp only [↓wR,RA,simprocAttr,TF,ae,h4])
   exact ⟨i+1,⟨hlt,hx⟩,by omega,by (first|rfl|trivial|omega|((try (simp (disch:=omega) only [ah]));(try (simp only [FB]));first|done|rfl|omega))⟩
 ·rw [dz (decide_eq_false h3),List.any_nil] at hx
  simp only [↓wR,RA,simprocAttr,TF,ae,h3]
  rw [hx]<;>rfl
noncomputable def P8 (x:be × Name × Unit):Option AV:=if cy x.1∧bj x.2.1 then some ((r1 bn).E true (sg x.1 x.2.1)) else none
set_option maxRecDepth 2000000 in
theorem aaz (x:be × Name × Unit) (r:AV) (h:P8 x=some r):bc PP 109 ((aC bf (aC aw a0)).E x) r:=by
 by_cases hc:cy x.1∧bj x.2.1
 case neg=>simp only [P8,if_neg hc] at h;cases h
 simp only [P8,if_pos hc] at h
 cases h
 exact ba (aj.cons (ai nj) (aj.cons (ai gi) (aj.nil PP))) Tryz.func109 (by kernel_rfl) (by kernel_rfl) (by kernel_rfl) (Nat.le_of_ble_eq_true (by kernel_rfl)) (r1 bn) true (sg x.1 x.2.1) (aBj x.1 x.2.1 hc.1 hc.2)
noncomputable abbrev aB8:Nat × Bool × (List AV→M AV):=(109,true,cx (aC bf (aC aw a0)) P8)
theorem arf (t:UInt16):wl PP [] 0 (Tryz.f188.body.getD .skip) (dj PP Tryz.f188.results.toList (fun r st=>(r1 bn).get true st.h r=some false)) (b9 0 [da.val false t]) (bq []):=by
 unfold Tryz.f188
 simp only [↓wR,RA,simprocAttr,TF,ae,bne_self_eq_false]
noncomputable def Yu (x:UInt16 × Unit):Option AV:=some ((r1 bn).E true (false))
set_option maxRecDepth 2000000 in
theorem ajn (x:UInt16 × Unit) (r:AV) (h:Yu x=some r):bc PP 188 ((aC da a0).E x) r:=by
 cases h
 exact ba (aj.nil PP) Tryz.func188 (by kernel_rfl) (by kernel_rfl) (by kernel_rfl) (Nat.le_of_ble_eq_true (by kernel_rfl)) (r1 bn) true (false) (arf x.1)
noncomputable abbrev aEh:Nat × Bool × (List AV→M AV):=(188,true,cx (aC da a0) Yu)
def aex (a b:UInt16):Int:=if (a.toNat:Int)<b.toNat then -1 else if (b.toNat:Int)<a.toNat then 1 else 0
theorem aAb (a b:UInt16):wl PP [aEh] 0 (Tryz.f170.body.getD .skip) (dj PP Tryz.f170.results.toList (fun r st=>(r1 (ay .i64)).get true st.h r=some (aex a b))) (b9 0 [da.val false a,da.val false b]) (bq []):=by
 unfold Tryz.f170
 unfold aex
 simp only [↓wR,RA,simprocAttr,TF,ae,Yu]
 rw [bm];refine ⟨fun h=>?_,fun h=>?_⟩
 ·rw [if_pos h]
  simp only [↓wR,RA,simprocAttr,TF,ae,h]
 ·rw [if_neg h]
  simp only [↓wR,RA,simprocAttr,TF,ae,h]
  rw [bm];refine ⟨fun h2=>?_,fun h2=>?_⟩
  ·rw [if_pos h2]
   simp only [↓wR,RA,simprocAttr,TF,ae,h2]
  ·rw [if_neg h2]
   simp only [↓wR,RA,simprocAttr,TF,ae,h2]
noncomputable def ais (x:UInt16 × UInt16 × Unit):Option AV:=some ((r1 (ay .i64)).E true (aex x.1 x.2.1))
set_option maxRecDepth 2000000 in
theorem ap0 (x:UInt16 × UInt16 × Unit) (r:AV) (h:ais x=some r):bc PP 170 ((aC da (aC da a0)).E x) r:=by
 cases h
 exact ba (aj.cons (ai ajn) (aj.nil PP)) Tryz.func170 (by kernel_rfl) (by kernel_rfl) (by kernel_rfl) (Nat.le_of_ble_eq_true (by kernel_rfl)) (r1 (ay .i64)) true (aex x.1 x.2.1) (aAb x.1 x.2.1)
noncomputable abbrev aFj:Nat × Bool × (List AV→M AV):=(170,true,cx (aC da (aC da a0)) ais)
def Zr:List Int→Int
 | []=>0
 |a::r=>if a≠0 then a else Zr r
theorem aE7 (l:List Int) (hl:l.length≤16777216):wl PP [] 0 (Tryz.f168.body.getD .skip) (dj PP Tryz.f168.results.toList (fun r st=>(r1 (ay .i64)).get true st.h r=some (Zr l))) (b9 0 [(ca (ay .i64)).val false l]) (bq []):=by
 unfold Tryz.f168
 rw [lu]
 simp only [↓wR,RA,simprocAttr,TF,ae]
 refine di [3,6,7,8] (fun (i:Nat)=>[.sc (.int .i64 (0)),.vl false 1 (l.map ((ay .i64).val false)),.sc (.int .i64 (l.length)),.sc (.int .i64 (i))]) (fun _=>[]) (fun i=>i≤l.length∧Zr l=Zr (l.drop i)) (fun i=>l.length - i) 0 ⟨Nat.zero_le _,rfl⟩ (by simp only [↓wR,RA,simprocAttr,TF,ae]<;>rfl) (by simp only [↓wR,RA,simprocAttr,TF,ae]<;>rfl) ?_
 rintro i ⟨hi,hx⟩
 simp only [↓wR,RA,simprocAttr,TF,ae]
 rw [bm];refine ⟨fun h=>?_,fun h=>?_⟩
 ·obtain ⟨c,hc,hd1,hlt⟩:=dv (decide_eq_true h)
  rw [hd1,Zr] at hx
  simp only [↓wR,RA,simprocAttr,TF,ae,h,hc]
  rw [fg];refine ⟨fun ⟨h2,e2⟩=>?_,fun ⟨h2,e2⟩=>?_⟩
  ·rw [if_pos e2] at hx
   simp only [↓wR,RA,simprocAttr,TF,ae,h2]
   rw [hx]
  ·rw [if_neg (by omega)] at hx
   simp only [↓wR,RA,simprocAttr,TF,ae,h2];repeat (simp (disch:=omega) only [ah,cb,cd,cg,cf];try simp only [↓wR,RA,simprocAttr,TF,ae,h2])
   exact ⟨i+1,⟨hlt,hx⟩,by omega,by (first|rfl|trivial|omega|((try (simp (disch:=omega) only [ah]));(try (simp only [FB]));first|done|rfl|omega))⟩
 ·rw [dz (decide_eq_false h)] at hx
  simp only [↓wR,RA,simprocAttr,TF,ae,h]
  rw [hx];rfl
noncomputable def ahj (x:List Int × Unit):Option AV:=if x.1.length≤16777216 then some ((r1 (ay .i64)).E true (Zr x.1)) else none
set_option maxRecDepth 2000000 in
theorem avo (x:List Int × Unit) (r:AV) (h:ahj x=some r):bc PP 168 ((aC (ca (ay .i64)) a0).E x) r:=by
 by_cases hc:x.1.length≤16777216
 case neg=>simp only [ahj,if_neg hc] at h;cases h
 simp only [ahj,if_pos hc] at h
 cases h
 exact ba (aj.nil PP) Tryz.func168 (by kernel_rfl) (by kernel_rfl) (by kernel_rfl) (Nat.le_of_ble_eq_true (by kernel_rfl)) (r1 (ay .i64)) true (Zr x.1) (aE7 x.1 hc)
noncomputable abbrev orC:Nat × Bool × (List AV→M AV):=(168,true,cx (aC (ca (ay .i64)) a0) ahj)
noncomputable def Qc (a b:bo):Int:=Zr [afz a.owner b.owner,aex a.type b.type]
theorem aoz (a b:bo) (ha:dq a) (hb:dq b):wl PP [alf,aFj,orC] 0 (Tryz.f152.body.getD .skip) (dj PP Tryz.f152.results.toList (fun r st=>(r1 (ay .i64)).get true st.h r=some (Qc a b))) (b9 0 [ak.val false a,ak.val false b]) (bq []):=by
 unfold Tryz.f152
 simp only [jq]
 simp only [↓wR,RA,simprocAttr,TF,ae]
 refine ⟨by kernel_rfl,.inl ?_⟩
 simp only [↓wR,RA,simprocAttr,TF,ae,xe,ais,ahj,ha.owner,hb.owner]
 exact ⟨by kernel_rfl,rfl⟩
noncomputable def zm (x:bo × bo × Unit):Option AV:=if dq x.1∧dq x.2.1 then some ((r1 (ay .i64)).E true (Qc x.1 x.2.1)) else none
set_option maxRecDepth 2000000 in
theorem acy (x:bo × bo × Unit) (r:AV) (h:zm x=some r):bc PP 152 ((aC ak (aC ak a0)).E x) r:=by
 by_cases hc:dq x.1∧dq x.2.1
 case neg=>simp only [zm,if_neg hc] at h;cases h
 simp only [zm,if_pos hc] at h
 cases h
 exact ba (aj.cons (ai Th) (aj.cons (ai ap0) (aj.cons (ai avo) (aj.nil PP)))) Tryz.func152 (by kernel_rfl) (by kernel_rfl) (by kernel_rfl) (Nat.le_of_ble_eq_true (by kernel_rfl)) (r1 (ay .i64)) true (Qc x.1 x.2.1) (aoz x.1 x.2.1 hc.1 hc.2)
noncomputable abbrev aff:Nat × Bool × (List AV→M AV):=(152,true,cx (aC ak (aC ak a0)) zm)
noncomputable def xo (t:UInt16):List c0→Bool
 |a::b::r=>if 0≤T8 t a b then false else xo t (b::r)
 |_=>true
noncomputable def ln (z:be) (i:Nat) (s:bo):Bool:=
 (match i with|0=>true|k+1=>match z.ar[k]? with|some a=>decide (¬ (Qc a s ≥ 0))|none=>true) && xo s.type s.data
theorem Ep (k:Nat):((k:Int)+1).toNat=k+1:=by omega
theorem P5 (k:Nat):(0:Int)≤(k:Int)+1:=by omega
theorem Zx (t:UInt16) {l:List c0} {k:Nat} {a b:c0} (ha:l[k]? = some a) (hb:l[k+1]? = some b):xo t (l.drop k)=if 0≤T8 t a b then false else xo t (l.drop (k+1)):=by
 rw [Kd ha,Kd hb];rfl
theorem Xl (t:UInt16) {l:List c0} {k:Nat} (h:l.length≤k+1):xo t (l.drop k)=true:=by
 have:(l.drop k).length≤1:=by rw [List.length_drop];omega
 match hd:l.drop k with
 | []=>rfl
 | [a]=>rfl
 |a::b::r=>rw [hd] at this;simp at this
theorem avg (l:vq) (i:Nat) (s:bo) (hz:cy l.z) (hs:dq s) (hi:i≤l.z.ar.length):wl PP [aff,H8] 0 (Tryz.f122.body.getD .skip) (dj PP Tryz.f122.results.toList (fun r st=>(r1 bn).get true st.h r=some (ln l.z i s))) (b9 0 [.gn (nm.cells false l),(ay .i64).val false i,ak.val false s]) (bq []):=by
 have hd:=hs.data
 have hn:=hd.len
 have hl:=hz.len
 unfold Tryz.f122
 simp only [jq]
 simp only [↓wR,RA,simprocAttr,TF,ae,Cj]
 refine ⟨by kernel_rfl,.inl ?_⟩
 rw [bm];refine ⟨fun h=>?_,fun h=>?_⟩
 ·cases i with
  |zero=>omega
  |succ k=>
  obtain ⟨a,ha⟩:∃ a,l.z.ar[k]? = some a:=⟨_,List.getElem?_eq_getElem (by omega)⟩
  have has:=hz.set a (List.mem_of_getElem? ha)
  simp only [↓wR,RA,simprocAttr,TF,ae,h,ha,Int.natCast_add,Int.add_sub_cancel,zm,has,hs];repeat (simp (disch:=omega) only [ah,cb,cd,cg,cf];try simp only [↓wR,RA,simprocAttr,TF,ae,h,ha,Int.natCast_add,Int.add_sub_cancel,zm,has,hs])
  refine ⟨by kernel_rfl,?_⟩
  rw [bm];refine ⟨fun h2=>?_,fun h2=>?_⟩
  ·have hv:ln l.z (k+1) s=false:=by simp only [ln,ha];simp [h2]
   simp only [↓wR,RA,simprocAttr,TF,ae,h2]
   rw [hv]
  have hv:ln l.z (k+1) s=xo s.type s.data:=by simp only [ln,ha];simp [h2]
  clear ha
  simp only [↓wR,RA,simprocAttr,TF,ae,h2]
  refine di [5,7] (fun (k:Nat)=>[.ptr 0 0,.sc (.int .i64 ((k:Int)+1))]) (fun _=>[some (.row [.vl false 1 (s.owner.map (aq.val false)),.sc (.int .u16 s.type.toNat),.sc (.int .u16 s.cls.toNat),.sc (.int .u32 s.ot.toNat),.vl false 4 (s.data.map (bz.val false))] 0 2 40)]) (fun k=>(k=0∨k+1≤s.data.length)∧xo s.type s.data=xo s.type (s.data.drop k)) (fun k=>s.data.length - k) 0 ⟨.inl rfl,rfl⟩ (by simp only [↓wR,RA,simprocAttr,TF,ae]<;>rfl) (by simp only [↓wR,RA,simprocAttr,TF,ae]<;>rfl) ?_
  rintro k ⟨hk,hx⟩
  simp only [↓wR,RA,simprocAttr,TF,ae]
  rw [bm];refine ⟨fun h5=>?_,fun h5=>?_⟩
  ·obtain ⟨a,ha⟩:∃ a,s.data[k]? = some a:=⟨_,List.getElem?_eq_getElem (by omega)⟩
   obtain ⟨b,hb⟩:∃ b,s.data[k+1]? = some b:=⟨_,List.getElem?_eq_getElem (by omega)⟩
   rw [Zx _ ha hb] at hx
   have has:=hd.mem a (List.mem_of_getElem? ha)
   have hbs:=hd.mem b (List.mem_of_getElem? hb)
   simp only [↓wR,RA,simprocAttr,TF,ae,h5]
   refine ⟨by kernel_rfl,.inl ?_⟩
   simp only [↓wR,RA,simprocAttr,TF,ae,ha,hb,Int.add_sub_cancel,Ep,P5,od,has,hbs];repeat (simp (disch:=omega) only [ah,cb,cd,cg,cf];try simp only [↓wR,RA,simprocAttr,TF,ae,ha,hb,Int.add_sub_cancel,Ep,P5,od,has,hbs])
   refine ⟨by kernel_rfl,?_⟩
   rw [bm];refine ⟨fun h6=>?_,fun h6=>?_⟩
   ·rw [if_pos h6] at hx
    simp only [↓wR,RA,simprocAttr,TF,ae,h6]
    rw [hv,hx]
   ·rw [if_neg h6] at hx
    simp only [↓wR,RA,simprocAttr,TF,ae,h6];repeat (simp (disch:=omega) only [ah,cb,cd,cg,cf];try simp only [↓wR,RA,simprocAttr,TF,ae,h6])
    exact ⟨k+1,⟨.inr (by omega),hx⟩,by omega,by (first|rfl|trivial|omega|((try (simp (disch:=omega) only [ah]));(try (simp only [FB]));first|done|rfl|omega))⟩
  ·rw [Xl _ (by omega)] at hx
   simp only [↓wR,RA,simprocAttr,TF,ae,h5]
   rw [hv,hx]
 ·simp only [↓wR,RA,simprocAttr,TF,ae,h]
  have hi0:i=0:=by omega
  have hv:ln l.z i s=xo s.type s.data:=by rw [hi0];simp [ln]
  refine ⟨by kernel_rfl,?_⟩
  refine di [5,7] (fun (k:Nat)=>[.ptr 0 0,.sc (.int .i64 ((k:Int)+1))]) (fun _=>[some (.row [.vl false 1 (s.owner.map (aq.val false)),.sc (.int .u16 s.type.toNat),.sc (.int .u16 s.cls.toNat),.sc (.int .u32 s.ot.toNat),.vl false 4 (s.data.map (bz.val false))] 0 2 40)]) (fun k=>(k=0∨k+1≤s.data.length)∧xo s.type s.data=xo s.type (s.data.drop k)) (fun k=>s.data.length - k) 0 ⟨.inl rfl,rfl⟩ (by simp only [↓wR,RA,simprocAttr,TF,ae]<;>rfl) (by simp only [↓wR,RA,simprocAttr,TF,ae]<;>rfl) ?_
  rintro k ⟨hk,hx⟩
  simp only [↓wR,RA,simprocAttr,TF,ae]
  rw [bm];refine ⟨fun h5=>?_,fun h5=>?_⟩
  ·obtain ⟨a,ha⟩:∃ a,s.data[k]? = some a:=⟨_,List.getElem?_eq_getElem (by omega)⟩
   obtain ⟨b,hb⟩:∃ b,s.data[k+1]? = some b:=⟨_,List.getElem?_eq_getElem (by omega)⟩
   rw [Zx _ ha hb] at hx
   have has:=hd.mem a (List.mem_of_getElem? ha)
   have hbs:=hd.mem b (List.mem_of_getElem? hb)
   simp only [↓wR,RA,simprocAttr,TF,ae,h5]
   refine ⟨by kernel_rfl,.inl ?_⟩
   simp only [↓wR,RA,simprocAttr,TF,ae,ha,hb,Int.add_sub_cancel,Ep,P5,od,has,hbs];repeat (simp (disch:=omega) only [ah,cb,cd,cg,cf];try simp only [↓wR,RA,simprocAttr,TF,ae,ha,hb,Int.add_sub_cancel,Ep,P5,od,has,hbs])
   refine ⟨by kernel_rfl,?_⟩
   rw [bm];refine ⟨fun h6=>?_,fun h6=>?_⟩
   ·rw [if_pos h6] at hx
    simp only [↓wR,RA,simprocAttr,TF,ae,h6]
    rw [hv,hx]
   ·rw [if_neg h6] at hx
    simp only [↓wR,RA,simprocAttr,TF,ae,h6];repeat (simp (disch:=omega) only [ah,cb,cd,cg,cf];try simp only [↓wR,RA,simprocAttr,TF,ae,h6])
    exact ⟨k+1,⟨.inr (by omega),hx⟩,by omega,by (first|rfl|trivial|omega|((try (simp (disch:=omega) only [ah]));(try (simp only [FB]));first|done|rfl|omega))⟩
  ·rw [Xl _ (by omega)] at hx
   simp only [↓wR,RA,simprocAttr,TF,ae,h5]
   rw [hv,hx]
theorem aup (l:vq) (i:Int) (s:bo) (hz:cy l.z) (hs:dq s) (hi : 0≤i∧i≤l.z.ar.length):wl PP [aff,H8] 0 (Tryz.f122.body.getD .skip) (dj PP Tryz.f122.results.toList (fun r st=>(r1 bn).get true st.h r=some (ln l.z i.toNat s))) (b9 0 [.gn (nm.cells false l),(ay .i64).val false i,ak.val false s]) (bq []):=by
 have:=avg l i.toNat s hz hs (by omega)
 rwa [Int.toNat_of_nonneg hi.1] at this
noncomputable def Jr (x:vq × Int × bo × Unit):Option AV:=if (cy x.1.z∧dq x.2.2.1)∧0≤x.2.1∧x.2.1≤x.1.z.ar.length then some ((r1 bn).E true (ln x.1.z x.2.1.toNat x.2.2.1)) else none
set_option maxRecDepth 2000000 in
theorem Qy (x:vq × Int × bo × Unit) (r:AV) (h:Jr x=some r):bc PP 122 ((aP nm (aC (ay .i64) (aC ak a0))).E x) r:=by
 by_cases hc:(cy x.1.z∧dq x.2.2.1)∧0≤x.2.1∧x.2.1≤x.1.z.ar.length
 case neg=>simp only [Jr,if_neg hc] at h;cases h
 simp only [Jr,if_pos hc] at h
 cases h
 exact ba (aj.cons (ai acy) (aj.cons (ai Fx) (aj.nil PP))) Tryz.func122 (by kernel_rfl) (by kernel_rfl) (by kernel_rfl) (Nat.le_of_ble_eq_true (by kernel_rfl)) (r1 bn) true (ln x.1.z x.2.1.toNat x.2.2.1) (aup x.1 x.2.1 x.2.2.1 hc.1.1 hc.1.2 hc.2)
noncomputable abbrev jz:Nat × Bool × (List AV→M AV):=(122,true,cx (aP nm (aC (ay .i64) (aC ak a0))) Jr)
def Fl (i:Nat) (n:Name):Nat→List bo→Bool
 |_,[]=>false
 |k,o::r=>(decide (¬ (k:Int)=i) && fi o.owner n) || Fl i n (k+1) r
def jn (z:be) (i:Nat) (s:bo):Bool:=
 if ¬ (s.type.toNat:Int)=5 then true else if ¬ (s.data.length:Int)=1 then false else if fi s.owner z.origin=true then false else !Fl i s.owner 0 z.ar
theorem axb (l:vq) (i:Nat) (s:bo) (hz:cy l.z) (hs:dq s):wl PP [dx] 0 (Tryz.f128.body.getD .skip) (dj PP Tryz.f128.results.toList (fun r st=>(r1 bn).get true st.h r=some (jn l.z i s))) (b9 0 [.gn (nm.cells false l),(ay .i64).val false i,ak.val false s]) (bq []):=by
 have hl:=hz.len
 unfold Tryz.f128
 simp only [jq]
 simp only [↓wR,RA,simprocAttr,TF,ae,Cj]
 unfold jn
 rw [fg];refine ⟨fun ⟨h,e⟩=>?_,fun ⟨h,e⟩=>?_⟩
 ·rw [if_pos e]
  simp only [↓wR,RA,simprocAttr,TF,ae,h]
 rw [if_neg (by omega)]
 simp only [↓wR,RA,simprocAttr,TF,ae,h]
 refine ⟨by kernel_rfl,.inl ?_⟩
 rw [fg];refine ⟨fun ⟨h2,e2⟩=>?_,fun ⟨h2,e2⟩=>?_⟩
 ·rw [if_pos e2]
  simp only [↓wR,RA,simprocAttr,TF,ae,h2]
  exact by kernel_rfl
 rw [if_neg (by omega)]
 simp only [↓wR,RA,simprocAttr,TF,ae,h2,jc,hs.owner,hz.origin]
 refine ⟨by kernel_rfl,?_⟩
 rw [br];refine ⟨fun h3=>?_,fun h3=>?_⟩
 ·rw [if_pos h3]
  simp only [↓wR,RA,simprocAttr,TF,ae,h3]
 rw [if_neg (by rw [h3];decide)]
 simp only [↓wR,RA,simprocAttr,TF,ae,h3]
 refine di [1,5,30,31,32] (fun (k:Nat)=>[.sc (.int .i64 (i)),.ptr 0 0,.vl false 5 (l.z.ar.map (ak.val false)),.sc (.int .i64 (l.z.ar.length)),.sc (.int .i64 (k))]) (fun _=>[some (.row [.vl false 1 (s.owner.map (aq.val false)),.sc (.int .u16 s.type.toNat),.sc (.int .u16 s.cls.toNat),.sc (.int .u32 s.ot.toNat),.vl false 4 (s.data.map (bz.val false))] 0 2 40)]) (fun k=>k≤l.z.ar.length∧Fl i s.owner 0 l.z.ar=Fl i s.owner k (l.z.ar.drop k)) (fun k=>l.z.ar.length - k) 0 ⟨Nat.zero_le _,rfl⟩ (by simp only [↓wR,RA,simprocAttr,TF,ae]<;>rfl) (by simp only [↓wR,RA,simprocAttr,TF,ae]<;>rfl) ?_
 rintro k ⟨hk,hx⟩
 simp only [↓wR,RA,simprocAttr,TF,ae]
 rw [bm];refine ⟨fun h4=>?_,fun h4=>?_⟩
 ·obtain ⟨c,hc,hd1,hlt⟩:=dv (decide_eq_true h4)
  rw [hd1,Fl] at hx
  have hcs:=hz.set c (List.mem_of_getElem? hc)
  simp only [↓wR,RA,simprocAttr,TF,ae,h4,hc]
  rw [fg];refine ⟨fun ⟨h5,e5⟩=>?_,fun ⟨h5,e5⟩=>?_⟩
  ·rw [decide_eq_true e5,Bool.true_and] at hx
   simp only [↓wR,RA,simprocAttr,TF,ae,h5,jc,hcs.owner,hs.owner]
   rw [br];refine ⟨fun h6=>?_,fun h6=>?_⟩
   ·rw [h6,Bool.true_or] at hx
    simp only [↓wR,RA,simprocAttr,TF,ae,h6]
    rw [hx];rfl
   ·rw [h6,Bool.false_or] at hx
    simp only [↓wR,RA,simprocAttr,TF,ae,h6];repeat (simp (disch:=omega) only [ah,cb,cd,cg,cf];try simp only [↓wR,RA,simprocAttr,TF,ae,h6])
    exact ⟨k+1,⟨hlt,hx⟩,by omega,by (first|rfl|trivial|omega|((try (simp (disch:=omega) only [ah]));(try (simp only [FB]));first|done|rfl|omega))⟩
  ·rw [decide_eq_false (by omega),Bool.false_and,Bool.false_or] at hx
   simp only [↓wR,RA,simprocAttr,TF,ae,h5];repeat (simp (disch:=omega) only [ah,cb,cd,cg,cf];try simp only [↓wR,RA,simprocAttr,TF,ae,h5])
   exact ⟨k+1,⟨hlt,hx⟩,by omega,by (first|rfl|trivial|omega|((try (simp (disch:=omega) only [ah]));(try (simp only [FB]));first|done|rfl|omega))⟩
 ·rw [dz (decide_eq_false h4),Fl] at hx
  simp only [↓wR,RA,simprocAttr,TF,ae,h4]
  rw [hx];rfl
theorem aud (l:vq) (i:Int) (s:bo) (hz:cy l.z) (hs:dq s) (hi : 0≤i):wl PP [dx] 0 (Tryz.f128.body.getD .skip) (dj PP Tryz.f128.results.toList (fun r st=>(r1 bn).get true st.h r=some (jn l.z i.toNat s))) (b9 0 [.gn (nm.cells false l),(ay .i64).val false i,ak.val false s]) (bq []):=by
 have:=axb l i.toNat s hz hs
 rwa [Int.toNat_of_nonneg hi] at this
noncomputable def Fg (x:vq × Int × bo × Unit):Option AV:=if (cy x.1.z∧dq x.2.2.1)∧0≤x.2.1 then some ((r1 bn).E true (jn x.1.z x.2.1.toNat x.2.2.1)) else none
set_option maxRecDepth 2000000 in
theorem Sm (x:vq × Int × bo × Unit) (r:AV) (h:Fg x=some r):bc PP 128 ((aP nm (aC (ay .i64) (aC ak a0))).E x) r:=by
 by_cases hc:(cy x.1.z∧dq x.2.2.1)∧0≤x.2.1
 case neg=>simp only [Fg,if_neg hc] at h;cases h
 simp only [Fg,if_pos hc] at h
 cases h
 exact ba (aj.cons (ai gi) (aj.nil PP)) Tryz.func128 (by kernel_rfl) (by kernel_rfl) (by kernel_rfl) (Nat.le_of_ble_eq_true (by kernel_rfl)) (r1 bn) true (jn x.1.z x.2.1.toNat x.2.2.1) (aud x.1 x.2.1 x.2.2.1 hc.1.1 hc.1.2 hc.2)
noncomputable abbrev jy:Nat × Bool × (List AV→M AV):=(128,true,cx (aP nm (aC (ay .i64) (aC ak a0))) Fg)
def ow (s:bo):Bool:=if ¬ (s.cls.toNat:Int)=1 then false else if (s.type.toNat:Int)=0 then false else if (s.type.toNat:Int)=41 then false else !decide ((s.type.toNat:Int)=255)
theorem axj (i:Int) (s:bo):wl PP [] 0 (Tryz.f123.body.getD .skip) (dj PP Tryz.f123.results.toList (fun r st=>(r1 bn).get true st.h r=some (ow s))) (b9 0 [(ay .i64).val false i,ak.val false s]) (bq []):=by
 unfold Tryz.f123
 simp only [jq]
 simp only [↓wR,RA,simprocAttr,TF,ae]
 unfold ow
 rw [c9];refine ⟨fun ⟨h,e⟩=>?_,fun ⟨h,e⟩=>?_⟩
 ·rw [if_neg (by omega)]
  simp only [↓wR,RA,simprocAttr,TF,ae,h]
  rw [fg];refine ⟨fun ⟨h2,e2⟩=>?_,fun ⟨h2,e2⟩=>?_⟩
  ·rw [if_neg e2]
   simp only [↓wR,RA,simprocAttr,TF,ae,h2]
   rw [fg];refine ⟨fun ⟨h3,e3⟩=>?_,fun ⟨h3,e3⟩=>?_⟩
   ·rw [if_neg e3]
    simp only [↓wR,RA,simprocAttr,TF,ae,h3]
    rfl
   ·rw [if_pos e3]
    simp only [↓wR,RA,simprocAttr,TF,ae,h3]
  ·rw [if_pos e2]
   simp only [↓wR,RA,simprocAttr,TF,ae,h2]
 ·rw [if_pos e]
  simp only [↓wR,RA,simprocAttr,TF,ae,h]
noncomputable def Zb (x:Int × bo × Unit):Option AV:=some ((r1 bn).E true (ow x.2.1))
set_option maxRecDepth 2000000 in
theorem Sy (x:Int × bo × Unit) (r:AV) (h:Zb x=some r):bc PP 123 ((aC (ay .i64) (aC ak a0)).E x) r:=by
 cases h
 exact ba (aj.nil PP) Tryz.func123 (by kernel_rfl) (by kernel_rfl) (by kernel_rfl) (Nat.le_of_ble_eq_true (by kernel_rfl)) (r1 bn) true (ow x.2.1) (axj x.1 x.2.1)
noncomputable abbrev jx:Nat × Bool × (List AV→M AV):=(123,true,cx (aC (ay .i64) (aC ak a0)) Zb)
theorem auu (i:Int) (s:bo) (z:be) (hs:dq s) (hz:cy z):wl PP [uv] 0 (Tryz.f124.body.getD .skip) (dj PP Tryz.f124.results.toList (fun r st=>(r1 bn).get true st.h r=some (dr s.owner z.origin))) (b9 0 [(ay .i64).val false i,ak.val false s,.gn (bf.cells false z)]) (bq []):=by
 unfold Tryz.f124
 simp only [jq]
 simp only [↓wR,RA,simprocAttr,TF,ae,Cg,mn,hs.owner,hz.origin]
noncomputable def Ge (x:Int × bo × be × Unit):Option AV:=if dq x.2.1∧cy x.2.2.1 then some ((r1 bn).E true (dr x.2.1.owner x.2.2.1.origin)) else none
set_option maxRecDepth 2000000 in
theorem Om (x:Int × bo × be × Unit) (r:AV) (h:Ge x=some r):bc PP 124 ((aC (ay .i64) (aC ak (aP bf a0))).E x) r:=by
 by_cases hc:dq x.2.1∧cy x.2.2.1
 case neg=>simp only [Ge,if_neg hc] at h;cases h
 simp only [Ge,if_pos hc] at h
 cases h
 exact ba (aj.cons (ai nj) (aj.nil PP)) Tryz.func124 (by kernel_rfl) (by kernel_rfl) (by kernel_rfl) (Nat.le_of_ble_eq_true (by kernel_rfl)) (r1 bn) true (dr x.2.1.owner x.2.2.1.origin) (auu x.1 x.2.1 x.2.2.1 hc.1 hc.2)
noncomputable abbrev jb:Nat × Bool × (List AV→M AV):=(124,true,cx (aC (ay .i64) (aC ak (aP bf a0))) Ge)
def l0 (s:bo):Bool:=if ¬ (s.type.toNat:Int)=2 then true else match s.owner[0]? with|none=>true|some a=>!decide (a=vk)
theorem aA4 (i:Int) (s:bo) (hs:dq s):wl PP [] 0 (Tryz.f129.body.getD .skip) (dj PP Tryz.f129.results.toList (fun r st=>(r1 bn).get true st.h r=some (l0 s))) (b9 0 [(ay .i64).val false i,ak.val false s]) (bq []):=by
 have hn:=hs.owner.lt
 unfold Tryz.f129
 simp only [jq]
 simp only [↓wR,RA,simprocAttr,TF,ae]
 unfold l0
 rw [fg];refine ⟨fun ⟨h,e⟩=>?_,fun ⟨h,e⟩=>?_⟩
 ·rw [if_pos e]
  simp only [↓wR,RA,simprocAttr,TF,ae,h]
 rw [if_neg (by omega)]
 simp only [↓wR,RA,simprocAttr,TF,ae,h]
 rw [c9];refine ⟨fun ⟨h2,e2⟩=>?_,fun ⟨h2,e2⟩=>?_⟩
 ·have hnil:s.owner=[]:=List.eq_nil_of_length_eq_zero (by omega)
  have h0:s.owner[0]? = none:=by rw [hnil];rfl
  rw [h0]
  simp only [↓wR,RA,simprocAttr,TF,ae,h2]
 ·obtain ⟨a,ha⟩:∃ a,s.owner[0]? = some a:=⟨_,List.getElem?_eq_getElem (by omega)⟩
  have h0 : 0<s.owner.length:=by omega
  rw [ha]
  simp only [↓wR,RA,simprocAttr,TF,ae,h2,ha,h0]
  rfl
noncomputable def Jf (x:Int × bo × Unit):Option AV:=if dq x.2.1 then some ((r1 bn).E true (l0 x.2.1)) else none
set_option maxRecDepth 2000000 in
theorem Uz (x:Int × bo × Unit) (r:AV) (h:Jf x=some r):bc PP 129 ((aC (ay .i64) (aC ak a0)).E x) r:=by
 by_cases hc:dq x.2.1
 case neg=>simp only [Jf,if_neg hc] at h;cases h
 simp only [Jf,if_pos hc] at h
 cases h
 exact ba (aj.nil PP) Tryz.func129 (by kernel_rfl) (by kernel_rfl) (by kernel_rfl) (Nat.le_of_ble_eq_true (by kernel_rfl)) (r1 bn) true (l0 x.2.1) (aA4 x.1 x.2.1 hc)
noncomputable abbrev l9:Nat × Bool × (List AV→M AV):=(129,true,cx (aC (ay .i64) (aC ak a0)) Jf)
def qs (z:be) (s:bo):Bool:=
 match k8 z s.owner with
 |none=>true
 |some c=>if (s.type.toNat:Int)=1 then true else if (s.type.toNat:Int)=28 then true else if (s.type.toNat:Int)=2 then fi c s.owner else false
theorem aDv (i:Int) (s:bo) (z:be) (hs:dq s) (hz:cy z):wl PP [aw1,dx] 0 (Tryz.f130.body.getD .skip) (dj PP Tryz.f130.results.toList (fun r st=>(r1 bn).get true st.h r=some (qs z s))) (b9 0 [(ay .i64).val false i,ak.val false s,.gn (bf.cells false z)]) (bq []):=by
 have hsm:=abn (n:=s.owner) hz z.ar none (fun _ h=>h) (fun m hm=>by cases hm)
 change ∀ m,k8 z s.owner=some m→bj m at hsm
 unfold Tryz.f130
 simp only [jq]
 unfold qs
 cases hc:k8 z s.owner with
 |none=>
  simp only [↓wR,RA,simprocAttr,TF,ae,Cg,Eo,hs.owner,hz,hc,Option.isSome_none]
  done
 |some c=>
  simp only [↓wR,RA,simprocAttr,TF,ae,Cg,Eo,hs.owner,hz,hc]
  rw [c9];refine ⟨fun ⟨h,e⟩=>?_,fun ⟨h,e⟩=>?_⟩
  ·rw [if_pos e]
   simp only [↓wR,RA,simprocAttr,TF,ae,h]
  rw [if_neg e]
  simp only [↓wR,RA,simprocAttr,TF,ae,h]
  rw [c9];refine ⟨fun ⟨h2,e2⟩=>?_,fun ⟨h2,e2⟩=>?_⟩
  ·rw [if_pos e2]
   simp only [↓wR,RA,simprocAttr,TF,ae,h2]
  rw [if_neg e2]
  simp only [↓wR,RA,simprocAttr,TF,ae,h2]
  rw [c9];refine ⟨fun ⟨h3,e3⟩=>?_,fun ⟨h3,e3⟩=>?_⟩
  ·rw [if_pos e3]
   simp only [↓wR,RA,simprocAttr,TF,ae,h3,jc,hs.owner,hsm c hc]
  ·rw [if_neg e3]
   simp only [↓wR,RA,simprocAttr,TF,ae,h3]
noncomputable def P0 (x:Int × bo × be × Unit):Option AV:=if dq x.2.1∧cy x.2.2.1 then some ((r1 bn).E true (qs x.2.2.1 x.2.1)) else none
set_option maxRecDepth 2000000 in
theorem Zw (x:Int × bo × be × Unit) (r:AV) (h:P0 x=some r):bc PP 130 ((aC (ay .i64) (aC ak (aP bf a0))).E x) r:=by
 by_cases hc:dq x.2.1∧cy x.2.2.1
 case neg=>simp only [P0,if_neg hc] at h;cases h
 simp only [P0,if_pos hc] at h
 cases h
 exact ba (aj.cons (ai Ot) (aj.cons (ai gi) (aj.nil PP))) Tryz.func130 (by kernel_rfl) (by kernel_rfl) (by kernel_rfl) (Nat.le_of_ble_eq_true (by kernel_rfl)) (r1 bn) true (qs x.2.2.1 x.2.1) (aDv x.1 x.2.1 x.2.2.1 hc.1 hc.2)
noncomputable abbrev pn:Nat × Bool × (List AV→M AV):=(130,true,cx (aC (ay .i64) (aC ak (aP bf a0))) P0)
def kh (z:be) (p:Nat × Nat) (s:bo):Nat × Nat:=
 if (s.type.toNat:Int)=6 then (p.1+1,if (fi s.owner z.origin && decide ((s.data.length:Int)=1))=true then p.2+1 else p.2) else p
def gy (z:be):Nat × Nat:=z.ar.foldl (kh z) (0,0)
theorem aBa (k:vq) (hz:cy k.z):wl PP [dx] 0 (Tryz.f125.body.getD .skip) (dj PP Tryz.f125.results.toList (fun r st=>(r2 (ay .i64) (ay .i64)).get true st.h r=some (((gy k.z).1:Int),((gy k.z).2:Int)))) (b9 0 [.gn (nm.cells false k)]) (bq []):=by
 have hl:=hz.len
 unfold Tryz.f125
 simp only [↓wR,RA,simprocAttr,TF,ae,Cj]
 refine bt (T:=[]) (aj.nil PP) mixed Tryz.func127 rfl (by kernel_rfl) (by kernel_rfl) (by kernel_rfl) (by kernel_rfl) ?_;unfold Tryz.f127
 simp only [↓wR,RA,simprocAttr,TF,ae]
 refine ⟨[1,4,5,11],?_⟩
 have hib:tq PP 154=some (Tryz.f154.ntmps,Tryz.f154.body.getD .skip):=by kernel_rfl
 simp only [↓wR,RA,simprocAttr,TF,ae,hib]
 refine ⟨by kernel_rfl,fun l=>?_⟩
 unfold Tryz.f154
 simp only [↓wR,RA,simprocAttr,TF,ae]
 refine Hl [0,2,7,8,9] (fun (x:Nat × Nat × Nat)=>[.sc (.func (.yield l) #[] #[]),.ptr 4 0,.vl false 5 (k.z.ar.map (ak.val false)),.sc (.int .i64 (k.z.ar.length)),.sc (.int .i64 (x.1))]) (fun x=>[some (.row [.gn [.vl false 1 (k.z.origin.map (aq.val false)),.vl false 5 (k.z.ar.map (ak.val false)),.sc (.int .i64 (k.e))]] 0 2 178),some (.row [.sc (.int .i64 (x.2.1:Int))] 0 2 3),some (.row [.sc (.int .i64 (x.2.2:Int))] 0 2 3),some (.row [.vl false 1 (k.z.origin.map (aq.val false)),.vl false 5 (k.z.ar.map (ak.val false))] 0 2 26),some (.row [.sc (.int .u16 6)] 0 2 28)]) (fun x=>x.1≤k.z.ar.length∧x.2.1≤x.1∧x.2.2≤x.1∧gy k.z=(k.z.ar.drop x.1).foldl (kh k.z) x.2) (fun x=>k.z.ar.length - x.1) (0,0,0) ⟨Nat.zero_le _,Nat.le_refl _,Nat.le_refl _,rfl⟩ (by simp only [↓wR,RA,simprocAttr,TF,ae]<;>rfl) (by simp only [↓wR,RA,simprocAttr,TF,ae]<;>rfl) ?_
 rintro ⟨i,n,m⟩ ⟨hi,hn,hm,hx⟩
 simp only at hi hn hm hx
 simp only [↓wR,RA,simprocAttr,TF,ae]
 rw [ub];refine ⟨fun h=>?_,fun h=>?_⟩
 ·obtain ⟨c,hc,hd1,hlt⟩:=dv h
  have hcs:=hz.set c (List.mem_of_getElem? hc)
  have hstep:gy k.z=(k.z.ar.drop (i+1)).foldl (kh k.z) (kh k.z (n,m) c):=by rw [hx,hd1];rfl
  simp only [↓wR,RA,simprocAttr,TF,ae,h,hc]
  rw [ub];refine ⟨fun h2=>?_,fun h2=>?_⟩
  ·have e2:(c.type.toNat:Int)=6:=by simpa using h2
   simp only [↓wR,RA,simprocAttr,TF,ae,h2]
   refine my [0,2,7,8,9,17,19] ?_
   simp only [↓wR,RA,simprocAttr,TF,ae,py,je];repeat (simp (disch:=omega) only [ah,cb,cd,cg,cf];try simp only [↓wR,RA,simprocAttr,TF,ae,py,je])
   refine ⟨by kernel_rfl,.inl ?_⟩
   simp only [↓wR,RA,simprocAttr,TF,ae,jc,hcs.owner,hz.origin]
   have fin:∀ q,kh k.z (n,m) c=(n+1,q)→q≤i+1→gy k.z=(k.z.ar.drop (i+1)).foldl (kh k.z) (n+1,q):=fun q hq _=>by rw [hstep,hq]
   rw [br];refine ⟨fun h3=>?_,fun h3=>?_⟩
   ·simp only [↓wR,RA,simprocAttr,TF,ae,h3]
    refine ⟨by kernel_rfl,?_⟩
    rw [c9];refine ⟨fun ⟨h4,e4⟩=>?_,fun ⟨h4,e4⟩=>?_⟩
    ·have hq:kh k.z (n,m) c=(n+1,m+1):=by simp [kh,e2,h3,e4]
     simp only [↓wR,RA,simprocAttr,TF,ae,h4];repeat (simp (disch:=omega) only [ah,cb,cd,cg,cf];try simp only [↓wR,RA,simprocAttr,TF,ae,h4])
     exact ⟨(i+1,n+1,m+1),⟨hlt,by simp;omega,by simp;omega,fin _ hq (by omega)⟩,by simp;omega,by (first|rfl|trivial|omega|((try (simp (disch:=omega) only [ah]));(try (simp only [FB]));first|done|rfl|omega)),by (first|rfl|trivial|omega|((try (simp (disch:=omega) only [ah]));(try (simp only [FB]));first|done|rfl|omega))⟩
    ·have hq:kh k.z (n,m) c=(n+1,m):=by simp [kh,e2,h3,e4]
     simp only [↓wR,RA,simprocAttr,TF,ae,h4];repeat (simp (disch:=omega) only [ah,cb,cd,cg,cf];try simp only [↓wR,RA,simprocAttr,TF,ae,h4])
     exact ⟨(i+1,n+1,m),⟨hlt,by simp;omega,by simp;omega,fin _ hq (by omega)⟩,by simp;omega,by (first|rfl|trivial|omega|((try (simp (disch:=omega) only [ah]));(try (simp only [FB]));first|done|rfl|omega)),by (first|rfl|trivial|omega|((try (simp (disch:=omega) only [ah]));(try (simp only [FB]));first|done|rfl|omega))⟩
   ·have hq:kh k.z (n,m) c=(n+1,m):=by simp [kh,e2,h3]
    simp only [↓wR,RA,simprocAttr,TF,ae,h3]
    refine ⟨by kernel_rfl,?_⟩
    exact ⟨(i+1,n+1,m),⟨hlt,by simp;omega,by simp;omega,fin _ hq (by omega)⟩,by simp;omega,by (first|rfl|trivial|omega|((try (simp (disch:=omega) only [ah]));(try (simp only [FB]));first|done|rfl|omega)),by (first|rfl|trivial|omega|((try (simp (disch:=omega) only [ah]));(try (simp only [FB]));first|done|rfl|omega))⟩
  ·have e2:¬ (c.type.toNat:Int)=6:=by simpa using h2
   have hb2:kh k.z (n,m) c=(n,m):=by simp [kh,e2]
   rw [hb2] at hstep
   simp only [↓wR,RA,simprocAttr,TF,ae,h2];repeat (simp (disch:=omega) only [ah,cb,cd,cg,cf];try simp only [↓wR,RA,simprocAttr,TF,ae,h2])
   exact ⟨(i+1,n,m),⟨hlt,by simp;omega,by simp;omega,hstep⟩,by simp;omega,by (first|rfl|trivial|omega|((try (simp (disch:=omega) only [ah]));(try (simp only [FB]));first|done|rfl|omega)),by (first|rfl|trivial|omega|((try (simp (disch:=omega) only [ah]));(try (simp only [FB]));first|done|rfl|omega))⟩
 ·rw [dz h] at hx
  simp only [↓wR,RA,simprocAttr,TF,ae,h]
  refine ⟨by kernel_rfl,.inl ?_⟩
  refine ⟨by kernel_rfl,?_⟩
  rw [hx];rfl
noncomputable def Nw (x:vq × Unit):Option AV:=if cy x.1.z then some ((r2 (ay .i64) (ay .i64)).E true ((((gy x.1.z).1:Int),((gy x.1.z).2:Int)))) else none
set_option maxRecDepth 2000000 in
theorem Vu (x:vq × Unit) (r:AV) (h:Nw x=some r):bc PP 125 ((aP nm a0).E x) r:=by
 by_cases hc:cy x.1.z
 case neg=>simp only [Nw,if_neg hc] at h;cases h
 simp only [Nw,if_pos hc] at h
 cases h
 exact ba (aj.cons (ai gi) (aj.nil PP)) Tryz.func125 (by kernel_rfl) (by kernel_rfl) (by kernel_rfl) (Nat.le_of_ble_eq_true (by kernel_rfl)) (r2 (ay .i64) (ay .i64)) true ((((gy x.1.z).1:Int),((gy x.1.z).2:Int))) (aBa x.1 hc)
noncomputable abbrev l5:Nat × Bool × (List AV→M AV):=(125,true,cx (aP nm a0) Nw)
def dh (b:Bool) (err e:Int):Int:=if e=0∧b=false then err else e
def gm (err:Int) (p:Nat→bo→Bool):Nat→List bo→Int→Int
 |_,[],e=>e
 |i,s::r,e=>if e≠0 then e else gm err p (i+1) r (dh (p i s) err e)
def lf (l:List bo):Nat:=l.foldl (fun n s=>n+s.data.length) 0
noncomputable def C5:List bo→Int→Int
 | [],e=>e
 |s::r,e=>C5 r (if e=0 then qj s else e)
noncomputable def vu (z:be):Int:=if dt z.origin≠0 then dt z.origin else C5 z.ar (dh (decide (lf z.ar≤2048)) 3 0)
def Ky (z:be) (l:List bo):Bool:=l.any fun s=>decide ((s.type.toNat:Int)=2) && fi s.owner z.origin
def ij (z:be):Bool:=Ky z z.ar
theorem aik {z:be} {l:List bo} {i:Nat} {c:bo} (h:l.drop i=c::l.drop (i+1)):Ky z (l.drop i)=((decide ((c.type.toNat:Int)=2) && fi c.owner z.origin) || Ky z (l.drop (i+1))):=by rw [h];rfl
noncomputable def Uv (z:be):Int:=gm 260 (ln z) 0 z.ar (vu z)
noncomputable def W3 (z:be):Int:=gm 261 (fun _ s=>ow s) 0 z.ar (Uv z)
noncomputable def s9 (z:be):Int:=gm 262 (fun _ s=>dr s.owner z.origin) 0 z.ar (W3 z)
noncomputable def og (z:be):Int:=dh (decide ((gy z).1=1) && decide ((gy z).2=1)) 263 (s9 z)
noncomputable def Gl (z:be):Int:=dh (ij z) 264 (og z)
noncomputable def Gv (z:be):Int:=gm 265 (jn z) 0 z.ar (Gl z)
noncomputable def O8 (z:be):Int:=gm 266 (fun _ s=>l0 s) 0 z.ar (Gv z)
noncomputable def aDk (z:be):Int:=gm 267 (fun _ s=>qs z s) 0 z.ar (O8 z)
noncomputable def fq (z:be):Int:=if vu z≠0 then vu z else aDk z
theorem ado (l:List bo) (i:Nat) (c:bo) (h:l[i]? = some c):lf (l.take (i+1))=lf (l.take i)+c.data.length:=by
 obtain ⟨hk,rfl⟩:=List.getElem?_eq_some_iff.1 h
 rw [List.take_succ_eq_append_getElem hk];simp only [lf,List.foldl_append,List.foldl_cons,List.foldl_nil]
theorem ad1 (l:List bo):∀ k,l.foldl (fun n s=>n+s.data.length) k≤k+fp lh l:=by
 induction l with
 |nil=>intro k;exact Nat.le_refl _
 |cons a l ih=>
  intro k
  have h1:=ih (k+a.data.length)
  have h2:=ru v8 a.data
  simp only [fp,List.foldr_cons,List.foldl_cons,lh] at h1 ⊢
  unfold fp at h2
  omega
theorem aqa (l:List bo):lf l≤fp lh l:=by have:=ad1 l 0;unfold lf;omega
theorem av3 {l:List bo} {i:Nat} {c:bo} (h:l.drop i=c::l.drop (i+1)) (e:Int):C5 (l.drop i) e=C5 (l.drop (i+1)) (if e=0 then qj c else e):=by rw [h];rfl
theorem u6 {l:List bo} {i:Nat} {c:bo} (h:l.drop i=c::l.drop (i+1)) (err:Int) (p:Nat→bo→Bool) (e:Int):gm err p i (l.drop i) e=if e≠0 then e else gm err p (i+1) (l.drop (i+1)) (dh (p i c) err e):=by rw [h];rfl
set_option maxHeartbeats 4000000 in
theorem ae7 (z:be) (hz:cy z):wl PP [en,dx,g6,jz,jy,jx,jb,l9,pn,l5] 0 (Tryz.f82.body.getD .skip) (dj PP Tryz.f82.results.toList (fun r st=>(r1 (ay .i64)).get true st.h r=some (fq z))) (b9 0 [bf.val false z]) (bq []):=by
 have hl:=hz.len
 have ok:aj PP [en,dx,g6,jz,jy,jx,jb,l9,pn,l5]:=aj.cons (ai ld) (aj.cons (ai gi) (aj.cons (ai Mk) (aj.cons (ai Qy) (aj.cons (ai Sm) (aj.cons (ai Sy) (aj.cons (ai Om) (aj.cons (ai Uz) (aj.cons (ai Zw) (aj.cons (ai Vu) (aj.nil PP))))))))))
 unfold Tryz.f82
 simp only [gz]
 simp only [↓wR,RA,simprocAttr,TF,ae]
 refine eb (fun r st'=>r = .gb []∧st'=bq [some (.row [.vl false 1 (z.origin.map (aq.val false)),.vl false 5 (z.ar.map (ak.val false))] 0 2 26),some (.row [.vl false 1 (z.origin.map (aq.val false)),.vl false 5 (z.ar.map (ak.val false)),.sc (.int .i64 (vu z))] 0 2 180)]) rfl ?_ ?_
 ·refine bt (T:=[en,dx,g6,jz,jy,jx,jb,l9,pn,l5]) ok mixed Tryz.func120 rfl (by kernel_rfl) (by kernel_rfl) (by kernel_rfl) (by kernel_rfl) ?_;unfold Tryz.f120
  simp only [↓wR,RA,simprocAttr,TF,ae,mz,hz.origin.fit]
  unfold vu
  rw [br];refine ⟨fun h=>?_,fun h=>?_⟩
  ·have he:dt z.origin≠0:=by simpa using h
   rw [if_pos he]
   simp only [↓wR,RA,simprocAttr,TF,ae,h,i7,ir,ic]
  have he:dt z.origin=0:=by simpa using h
  rw [if_neg (by omega)]
  simp only [↓wR,RA,simprocAttr,TF,ae,h,he]
  refine di [0,2,25,26,27] (fun (i:Nat)=>[.ptr 1 0,.sc (.int .i64 (lf (z.ar.take i))),.vl false 5 (z.ar.map (ak.val false)),.sc (.int .i64 (z.ar.length)),.sc (.int .i64 (i))]) (fun _=>[some (.row [.vl false 1 (z.origin.map (aq.val false)),.vl false 5 (z.ar.map (ak.val false))] 0 2 26),some (.row [.vl false 1 (z.origin.map (aq.val false)),.vl false 5 (z.ar.map (ak.val false)),.sc (.int .i64 (0))] 0 2 180)]) (fun i=>i≤z.ar.length) (fun i=>z.ar.length - i) 0 (Nat.zero_le _) (by simp only [↓wR,RA,simprocAttr,TF,ae]<;>rfl) (by simp only [↓wR,RA,simprocAttr,TF,ae]<;>rfl) ?_
  clear h
  intro i hi
  have hsum:=aqa (z.ar.take i)
  have hsum2:=Tq lh z.ar i
  have hzz:fp lh z.ar≤16777216:=by unfold cy xn at hz;omega
  simp only [↓wR,RA,simprocAttr,TF,ae]
  rw [bm];refine ⟨fun h=>?_,fun h=>?_⟩
  ·obtain ⟨c,hc,hd1,hlt⟩:=dv (decide_eq_true h)
   have hst:=ado z.ar i c hc
   have hcl:=(hz.set c (List.mem_of_getElem? hc)).data.len
   simp only [↓wR,RA,simprocAttr,TF,ae,h,hc];repeat (simp (disch:=omega) only [ah,cb,cd,cg,cf];try simp only [↓wR,RA,simprocAttr,TF,ae,h,hc])
   exact ⟨i+1,hlt,by omega,by rw [hst];(first|rfl|trivial|omega|((try (simp (disch:=omega) only [ah]));(try (simp only [FB]));first|done|rfl|omega))⟩
  have hin:i=z.ar.length:=by omega
  rw [hin,List.take_length] at hsum ⊢
  simp only [↓wR,RA,simprocAttr,TF,ae,h]
  have hd:decide ((lf z.ar:Int)≤2048)=decide (lf z.ar≤2048):=by rw [decide_eq_decide];omega
  rw [hd]
  refine eb (fun r st'=>r = .gb []∧st'=bq [some (.row [.vl false 1 (z.origin.map (aq.val false)),.vl false 5 (z.ar.map (ak.val false))] 0 2 26),some (.row [.vl false 1 (z.origin.map (aq.val false)),.vl false 5 (z.ar.map (ak.val false)),.sc (.int .i64 (dh (decide (lf z.ar≤2048)) 3 (0)))] 0 2 180)]) rfl ?_ ?_
  ·refine bt (T:=[en,dx,g6,jz,jy,jx,jb,l9,pn,l5]) ok mixed Tryz.func126 rfl (by kernel_rfl) (by kernel_rfl) (by kernel_rfl) (by kernel_rfl) ?_;unfold Tryz.f126
   simp only [↓wR,RA,simprocAttr,TF,ae]
   rw [br];refine ⟨fun hn2=>?_,fun hn2=>?_⟩
   ·have hb:(decide (lf z.ar≤2048))=false:=by simpa only [Bool.not_eq_true'] using hn2
    have hv:dh (decide (lf z.ar≤2048)) 3 (0)=3:=by unfold dh;rw [if_pos ⟨rfl,hb⟩]
    simp only [↓wR,RA,simprocAttr,TF,ae,hn2,i7,ir,ic]
    try rw [hv]
   ·have hb:(decide (lf z.ar≤2048))=true:=by simpa only [Bool.not_eq_false'] using hn2
    have hv:dh (decide (lf z.ar≤2048)) 3 (0)=0:=by unfold dh;rw [if_neg (fun q=>by rw [hb] at q;cases q.2)]
    simp only [↓wR,RA,simprocAttr,TF,ae,hn2,i7,ir,ic]
    try rw [hv]
  rintro _ _ ⟨rfl,rfl⟩
  simp only [↓wR,RA,simprocAttr,TF,ae,g8]
  refine di [0,45,46,47] (fun (x:Nat × Int)=>[.ptr 1 0,.vl false 5 (z.ar.map (ak.val false)),.sc (.int .i64 (z.ar.length)),.sc (.int .i64 (x.1))]) (fun x=>[some (.row [.vl false 1 (z.origin.map (aq.val false)),.vl false 5 (z.ar.map (ak.val false))] 0 2 26),some (.row [.vl false 1 (z.origin.map (aq.val false)),.vl false 5 (z.ar.map (ak.val false)),.sc (.int .i64 (x.2))] 0 2 180)]) (fun x=>x.1≤z.ar.length∧C5 z.ar (dh (decide (lf z.ar≤2048)) 3 0)=C5 (z.ar.drop x.1) x.2) (fun x=>z.ar.length - x.1) (0,dh (decide (lf z.ar≤2048)) 3 0) ⟨Nat.zero_le _,rfl⟩ (by simp only [↓wR,RA,simprocAttr,TF,ae]<;>rfl) (by simp only [↓wR,RA,simprocAttr,TF,ae]<;>rfl) ?_
  clear h hi hin hd
  rintro ⟨i,e⟩ ⟨hi,hx⟩
  simp only at hi hx
  simp only [↓wR,RA,simprocAttr,TF,ae]
  rw [bm];refine ⟨fun h=>?_,fun h=>?_⟩
  ·obtain ⟨c,hc,hd1,hlt⟩:=dv (decide_eq_true h)
   rw [av3 hd1] at hx
   have hcs:=hz.set c (List.mem_of_getElem? hc)
   simp only [↓wR,RA,simprocAttr,TF,ae,h,hc]
   rw [c9];refine ⟨fun ⟨h1,e1⟩=>?_,fun ⟨h1,e1⟩=>?_⟩
   ·rw [if_pos e1] at hx
    simp only [↓wR,RA,simprocAttr,TF,ae,h1,z8,hcs];repeat (simp (disch:=omega) only [ah,cb,cd,cg,cf];try simp only [↓wR,RA,simprocAttr,TF,ae,h1,z8,hcs])
    exact ⟨(i+1,qj c),⟨hlt,hx⟩,by simp;omega,by (first|rfl|trivial|omega|((try (simp (disch:=omega) only [ah]));(try (simp only [FB]));first|done|rfl|omega)),by (first|rfl|trivial|omega|((try (simp (disch:=omega) only [ah]));(try (simp only [FB]));first|done|rfl|omega))⟩
   ·rw [if_neg e1] at hx
    simp only [↓wR,RA,simprocAttr,TF,ae,h1];repeat (simp (disch:=omega) only [ah,cb,cd,cg,cf];try simp only [↓wR,RA,simprocAttr,TF,ae,h1])
    exact ⟨(i+1,e),⟨hlt,hx⟩,by simp;omega,by (first|rfl|trivial|omega|((try (simp (disch:=omega) only [ah]));(try (simp only [FB]));first|done|rfl|omega)),by (first|rfl|trivial|omega|((try (simp (disch:=omega) only [ah]));(try (simp only [FB]));first|done|rfl|omega))⟩
  ·rw [dz (decide_eq_false h)] at hx
   simp only [↓wR,RA,simprocAttr,TF,ae,h,i7,ir,ic]
   rw [hx];rfl
 rintro _ _ ⟨rfl,rfl⟩
 simp only [↓wR,RA,simprocAttr,TF,ae,g8]
 unfold fq
 rw [br];refine ⟨fun h=>?_,fun h=>?_⟩
 ·have he:vu z≠0:=by simpa using h
  rw [if_pos he]
  simp only [↓wR,RA,simprocAttr,TF,ae,h]
 have he:vu z=0:=by simpa using h
 rw [if_neg (by omega)]
 simp only [↓wR,RA,simprocAttr,TF,ae,h]
 clear h he
 obtain ⟨e0,he0⟩:∃ e0,vu z=e0:=⟨_,rfl⟩
 rw [he0]
 refine eb (fun r st'=>r = .gb []∧st'=bq [some (.row [.vl false 1 (z.origin.map (aq.val false)),.vl false 5 (z.ar.map (ak.val false))] 0 2 26),some (.row [.vl false 1 (z.origin.map (aq.val false)),.vl false 5 (z.ar.map (ak.val false)),.sc (.int .i64 (gm 260 (ln z) 0 z.ar e0))] 0 2 180)]) rfl ?_ ?_
 ·refine bt (T:=[en,dx,g6,jz,jy,jx,jb,l9,pn,l5]) ok mixed Tryz.func121 rfl (by kernel_rfl) (by kernel_rfl) (by kernel_rfl) (by kernel_rfl) ?_;unfold Tryz.f121
  simp only [↓wR,RA,simprocAttr,TF,ae]
  refine di [0,1,2,12,13,14] (fun (x:Nat × Int)=>[.ptr 1 0,.sc (.int .i64 (260)),.fn (.func 122) [.ptr 1 0] [],.vl false 5 (z.ar.map (ak.val false)),.sc (.int .i64 (z.ar.length)),.sc (.int .i64 (x.1))]) (fun x=>[some (.row [.vl false 1 (z.origin.map (aq.val false)),.vl false 5 (z.ar.map (ak.val false))] 0 2 26),some (.row [.vl false 1 (z.origin.map (aq.val false)),.vl false 5 (z.ar.map (ak.val false)),.sc (.int .i64 (x.2))] 0 2 180)]) (fun x=>x.1≤z.ar.length∧gm 260 (ln z) 0 z.ar e0=gm 260 (ln z) x.1 (z.ar.drop x.1) x.2) (fun x=>z.ar.length - x.1) (0,e0) ⟨Nat.zero_le _,rfl⟩ (by simp only [↓wR,RA,simprocAttr,TF,ae]<;>rfl) (by simp only [↓wR,RA,simprocAttr,TF,ae]<;>rfl) ?_
  rintro ⟨i,e⟩ ⟨hi,hx⟩
  simp only at hi hx
  simp only [↓wR,RA,simprocAttr,TF,ae]
  rw [bm];refine ⟨fun h=>?_,fun h=>?_⟩
  ·obtain ⟨c,hc,hd1,hlt⟩:=dv (decide_eq_true h)
   rw [u6 hd1] at hx
   have hcs:=hz.set c (List.mem_of_getElem? hc)
   have hi2:(0:Int)≤i∧(i:Int)≤z.ar.length:=by omega
   simp only [↓wR,RA,simprocAttr,TF,ae,h,hc]
   rw [fg];refine ⟨fun ⟨h1,e1⟩=>?_,fun ⟨h1,e1⟩=>?_⟩
   ·rw [if_pos e1] at hx
    simp only [↓wR,RA,simprocAttr,TF,ae,h1,i7,ir,ic]
    rw [hx]
   ·rw [if_neg (by omega)] at hx
    simp only [↓wR,RA,simprocAttr,TF,ae,h1,hcs,hz,hi2,Jr]
    refine eb (fun r st'=>r = .gb []∧st'=bq [some (.row [.vl false 1 (z.origin.map (aq.val false)),.vl false 5 (z.ar.map (ak.val false))] 0 2 26),some (.row [.vl false 1 (z.origin.map (aq.val false)),.vl false 5 (z.ar.map (ak.val false)),.sc (.int .i64 (dh ((ln z) i c) 260 e))] 0 2 180),some (.row [.vl false 1 (c.owner.map (aq.val false)),.sc (.int .u16 c.type.toNat),.sc (.int .u16 c.cls.toNat),.sc (.int .u32 c.ot.toNat),.vl false 4 (c.data.map (bz.val false))] 0 2 40)]) rfl ?_ ?_
    ·refine bt (T:=[en,dx,g6,jz,jy,jx,jb,l9,pn,l5]) ok mixed Tryz.func126 rfl (by kernel_rfl) (by kernel_rfl) (by kernel_rfl) (by kernel_rfl) ?_;unfold Tryz.f126
     simp only [↓wR,RA,simprocAttr,TF,ae,e1]
     rw [br];refine ⟨fun hn2=>?_,fun hn2=>?_⟩
     ·have hb:((ln z) i c)=false:=by simpa only [Bool.not_eq_true'] using hn2
      have hv:dh ((ln z) i c) 260 0=260:=by unfold dh;rw [if_pos ⟨rfl,hb⟩]
      simp only [↓wR,RA,simprocAttr,TF,ae,hn2,i7,ir,ic]
      try rw [hv]
     ·have hb:((ln z) i c)=true:=by simpa only [Bool.not_eq_false'] using hn2
      have hv:dh ((ln z) i c) 260 0=0:=by unfold dh;rw [if_neg (fun q=>by rw [hb] at q;cases q.2)]
      simp only [↓wR,RA,simprocAttr,TF,ae,hn2,i7,ir,ic]
      try rw [hv]
    rintro _ _ ⟨rfl,rfl⟩
    simp only [↓wR,RA,simprocAttr,TF,ae,g8];repeat (simp (disch:=omega) only [ah,cb,cd,cg,cf];try simp only [↓wR,RA,simprocAttr,TF,ae,g8])
    exact ⟨(i+1,dh ((ln z) i c) 260 e),⟨hlt,hx⟩,by simp;omega,by (first|rfl|trivial|omega|((try (simp (disch:=omega) only [ah]));(try (simp only [FB]));first|done|rfl|omega)),by (first|rfl|trivial|omega|((try (simp (disch:=omega) only [ah]));(try (simp only [FB]));first|done|rfl|omega))⟩
  ·rw [dz (decide_eq_false h)] at hx
   simp only [↓wR,RA,simprocAttr,TF,ae,h,i7,ir,ic]
   rw [hx];rfl
 rintro _ _ ⟨rfl,rfl⟩
 rw [← he0]
 clear he0
 simp only [↓wR,RA,simprocAttr,TF,ae,g8]
 rw [show gm 260 (ln z) 0 z.ar (vu z)=Uv z from rfl]
 obtain ⟨e0,he0⟩:∃ e0,Uv z=e0:=⟨_,rfl⟩
 rw [he0]
 refine eb (fun r st'=>r = .gb []∧st'=bq [some (.row [.vl false 1 (z.origin.map (aq.val false)),.vl false 5 (z.ar.map (ak.val false))] 0 2 26),some (.row [.vl false 1 (z.origin.map (aq.val false)),.vl false 5 (z.ar.map (ak.val false)),.sc (.int .i64 (gm 261 (fun _ s=>ow s) 0 z.ar e0))] 0 2 180)]) rfl ?_ ?_
 ·refine bt (T:=[en,dx,g6,jz,jy,jx,jb,l9,pn,l5]) ok mixed Tryz.func121 rfl (by kernel_rfl) (by kernel_rfl) (by kernel_rfl) (by kernel_rfl) ?_;unfold Tryz.f121
  simp only [↓wR,RA,simprocAttr,TF,ae]
  refine di [0,1,2,12,13,14] (fun (x:Nat × Int)=>[.ptr 1 0,.sc (.int .i64 (261)),.sc (.func (.func 123) #[] #[]),.vl false 5 (z.ar.map (ak.val false)),.sc (.int .i64 (z.ar.length)),.sc (.int .i64 (x.1))]) (fun x=>[some (.row [.vl false 1 (z.origin.map (aq.val false)),.vl false 5 (z.ar.map (ak.val false))] 0 2 26),some (.row [.vl false 1 (z.origin.map (aq.val false)),.vl false 5 (z.ar.map (ak.val false)),.sc (.int .i64 (x.2))] 0 2 180)]) (fun x=>x.1≤z.ar.length∧gm 261 (fun _ s=>ow s) 0 z.ar e0=gm 261 (fun _ s=>ow s) x.1 (z.ar.drop x.1) x.2) (fun x=>z.ar.length - x.1) (0,e0) ⟨Nat.zero_le _,rfl⟩ (by simp only [↓wR,RA,simprocAttr,TF,ae]<;>rfl) (by simp only [↓wR,RA,simprocAttr,TF,ae]<;>rfl) ?_
  rintro ⟨i,e⟩ ⟨hi,hx⟩
  simp only at hi hx
  simp only [↓wR,RA,simprocAttr,TF,ae]
  rw [bm];refine ⟨fun h=>?_,fun h=>?_⟩
  ·obtain ⟨c,hc,hd1,hlt⟩:=dv (decide_eq_true h)
   rw [u6 hd1] at hx
   have hcs:=hz.set c (List.mem_of_getElem? hc)
   have hi2:(0:Int)≤i∧(i:Int)≤z.ar.length:=by omega
   simp only [↓wR,RA,simprocAttr,TF,ae,h,hc]
   rw [fg];refine ⟨fun ⟨h1,e1⟩=>?_,fun ⟨h1,e1⟩=>?_⟩
   ·rw [if_pos e1] at hx
    simp only [↓wR,RA,simprocAttr,TF,ae,h1,i7,ir,ic]
    rw [hx]
   ·rw [if_neg (by omega)] at hx
    simp only [↓wR,RA,simprocAttr,TF,ae,h1,hcs,hz,hi2,Zb]
    refine eb (fun r st'=>r = .gb []∧st'=bq [some (.row [.vl false 1 (z.origin.map (aq.val false)),.vl false 5 (z.ar.map (ak.val false))] 0 2 26),some (.row [.vl false 1 (z.origin.map (aq.val false)),.vl false 5 (z.ar.map (ak.val false)),.sc (.int .i64 (dh ((fun _ s=>ow s) i c) 261 e))] 0 2 180),some (.row [.vl false 1 (c.owner.map (aq.val false)),.sc (.int .u16 c.type.toNat),.sc (.int .u16 c.cls.toNat),.sc (.int .u32 c.ot.toNat),.vl false 4 (c.data.map (bz.val false))] 0 2 40)]) rfl ?_ ?_
    ·refine bt (T:=[en,dx,g6,jz,jy,jx,jb,l9,pn,l5]) ok mixed Tryz.func126 rfl (by kernel_rfl) (by kernel_rfl) (by kernel_rfl) (by kernel_rfl) ?_;unfold Tryz.f126
     simp only [↓wR,RA,simprocAttr,TF,ae,e1]
     rw [br];refine ⟨fun hn2=>?_,fun hn2=>?_⟩
     ·have hb:((fun _ s=>ow s) i c)=false:=by simpa only [Bool.not_eq_true'] using hn2
      have hv:dh ((fun _ s=>ow s) i c) 261 0=261:=by unfold dh;rw [if_pos ⟨rfl,hb⟩]
      simp only [↓wR,RA,simprocAttr,TF,ae,hn2,i7,ir,ic]
      try rw [hv]
     ·have hb:((fun _ s=>ow s) i c)=true:=by simpa only [Bool.not_eq_false'] using hn2
      have hv:dh ((fun _ s=>ow s) i c) 261 0=0:=by unfold dh;rw [if_neg (fun q=>by rw [hb] at q;cases q.2)]
      simp only [↓wR,RA,simprocAttr,TF,ae,hn2,i7,ir,ic]
      try rw [hv]
    rintro _ _ ⟨rfl,rfl⟩
    simp only [↓wR,RA,simprocAttr,TF,ae,g8];repeat (simp (disch:=omega) only [ah,cb,cd,cg,cf];try simp only [↓wR,RA,simprocAttr,TF,ae,g8])
    exact ⟨(i+1,dh ((fun _ s=>ow s) i c) 261 e),⟨hlt,hx⟩,by simp;omega,by (first|rfl|trivial|omega|((try (simp (disch:=omega) only [ah]));(try (simp only [FB]));first|done|rfl|omega)),by (first|rfl|trivial|omega|((try (simp (disch:=omega) only [ah]));(try (simp only [FB]));first|done|rfl|omega))⟩
  ·rw [dz (decide_eq_false h)] at hx
   simp only [↓wR,RA,simprocAttr,TF,ae,h,i7,ir,ic]
   rw [hx];rfl
 rintro _ _ ⟨rfl,rfl⟩
 rw [← he0]
 clear he0
 simp only [↓wR,RA,simprocAttr,TF,ae,g8]
 rw [show gm 261 (fun _ s=>ow s) 0 z.ar (Uv z)=W3 z from rfl]
 obtain ⟨e0,he0⟩:∃ e0,W3 z=e0:=⟨_,rfl⟩
 rw [he0]
 refine eb (fun r st'=>r = .gb []∧st'=bq [some (.row [.vl false 1 (z.origin.map (aq.val false)),.vl false 5 (z.ar.map (ak.val false))] 0 2 26),some (.row [.vl false 1 (z.origin.map (aq.val false)),.vl false 5 (z.ar.map (ak.val false)),.sc (.int .i64 (gm 262 (fun _ s=>dr s.owner z.origin) 0 z.ar e0))] 0 2 180)]) rfl ?_ ?_
 ·refine bt (T:=[en,dx,g6,jz,jy,jx,jb,l9,pn,l5]) ok mixed Tryz.func121 rfl (by kernel_rfl) (by kernel_rfl) (by kernel_rfl) (by kernel_rfl) ?_;unfold Tryz.f121
  simp only [↓wR,RA,simprocAttr,TF,ae]
  refine di [0,1,2,12,13,14] (fun (x:Nat × Int)=>[.ptr 1 0,.sc (.int .i64 (262)),.fn (.func 124) [] [.ptr 0 0],.vl false 5 (z.ar.map (ak.val false)),.sc (.int .i64 (z.ar.length)),.sc (.int .i64 (x.1))]) (fun x=>[some (.row [.vl false 1 (z.origin.map (aq.val false)),.vl false 5 (z.ar.map (ak.val false))] 0 2 26),some (.row [.vl false 1 (z.origin.map (aq.val false)),.vl false 5 (z.ar.map (ak.val false)),.sc (.int .i64 (x.2))] 0 2 180)]) (fun x=>x.1≤z.ar.length∧gm 262 (fun _ s=>dr s.owner z.origin) 0 z.ar e0=gm 262 (fun _ s=>dr s.owner z.origin) x.1 (z.ar.drop x.1) x.2) (fun x=>z.ar.length - x.1) (0,e0) ⟨Nat.zero_le _,rfl⟩ (by simp only [↓wR,RA,simprocAttr,TF,ae]<;>rfl) (by simp only [↓wR,RA,simprocAttr,TF,ae]<;>rfl) ?_
  rintro ⟨i,e⟩ ⟨hi,hx⟩
  simp only at hi hx
  simp only [↓wR,RA,simprocAttr,TF,ae]
  rw [bm];refine ⟨fun h=>?_,fun h=>?_⟩
  ·obtain ⟨c,hc,hd1,hlt⟩:=dv (decide_eq_true h)
   rw [u6 hd1] at hx
   have hcs:=hz.set c (List.mem_of_getElem? hc)
   have hi2:(0:Int)≤i∧(i:Int)≤z.ar.length:=by omega
   simp only [↓wR,RA,simprocAttr,TF,ae,h,hc]
   rw [fg];refine ⟨fun ⟨h1,e1⟩=>?_,fun ⟨h1,e1⟩=>?_⟩
   ·rw [if_pos e1] at hx
    simp only [↓wR,RA,simprocAttr,TF,ae,h1,i7,ir,ic]
    rw [hx]
   ·rw [if_neg (by omega)] at hx
    simp only [↓wR,RA,simprocAttr,TF,ae,h1,hcs,hz,hi2,Ge]
    refine eb (fun r st'=>r = .gb []∧st'=bq [some (.row [.vl false 1 (z.origin.map (aq.val false)),.vl false 5 (z.ar.map (ak.val false))] 0 2 26),some (.row [.vl false 1 (z.origin.map (aq.val false)),.vl false 5 (z.ar.map (ak.val false)),.sc (.int .i64 (dh ((fun _ s=>dr s.owner z.origin) i c) 262 e))] 0 2 180),some (.row [.vl false 1 (c.owner.map (aq.val false)),.sc (.int .u16 c.type.toNat),.sc (.int .u16 c.cls.toNat),.sc (.int .u32 c.ot.toNat),.vl false 4 (c.data.map (bz.val false))] 0 2 40)]) rfl ?_ ?_
    ·refine bt (T:=[en,dx,g6,jz,jy,jx,jb,l9,pn,l5]) ok mixed Tryz.func126 rfl (by kernel_rfl) (by kernel_rfl) (by kernel_rfl) (by kernel_rfl) ?_;unfold Tryz.f126
     simp only [↓wR,RA,simprocAttr,TF,ae,e1]
     rw [br];refine ⟨fun hn2=>?_,fun hn2=>?_⟩
     ·have hb:((fun _ s=>dr s.owner z.origin) i c)=false:=by simpa only [Bool.not_eq_true'] using hn2
      have hv:dh ((fun _ s=>dr s.owner z.origin) i c) 262 0=262:=by unfold dh;rw [if_pos ⟨rfl,hb⟩]
      simp only [↓wR,RA,simprocAttr,TF,ae,hn2,i7,ir,ic]
      try rw [hv]
     ·have hb:((fun _ s=>dr s.owner z.origin) i c)=true:=by simpa only [Bool.not_eq_false'] using hn2
      have hv:dh ((fun _ s=>dr s.owner z.origin) i c) 262 0=0:=by unfold dh;rw [if_neg (fun q=>by rw [hb] at q;cases q.2)]
      simp only [↓wR,RA,simprocAttr,TF,ae,hn2,i7,ir,ic]
      try rw [hv]
    rintro _ _ ⟨rfl,rfl⟩
    simp only [↓wR,RA,simprocAttr,TF,ae,g8];repeat (simp (disch:=omega) only [ah,cb,cd,cg,cf];try simp only [↓wR,RA,simprocAttr,TF,ae,g8])
    exact ⟨(i+1,dh ((fun _ s=>dr s.owner z.origin) i c) 262 e),⟨hlt,hx⟩,by simp;omega,by (first|rfl|trivial|omega|((try (simp (disch:=omega) only [ah]));(try (simp only [FB]));first|done|rfl|omega)),by (first|rfl|trivial|omega|((try (simp (disch:=omega) only [ah]));(try (simp only [FB]));first|done|rfl|omega))⟩
  ·rw [dz (decide_eq_false h)] at hx
   simp only [↓wR,RA,simprocAttr,TF,ae,h,i7,ir,ic]
   rw [hx];rfl
 rintro _ _ ⟨rfl,rfl⟩
 rw [← he0]
 clear he0
 simp only [↓wR,RA,simprocAttr,TF,ae,g8,Nw,hz]
 rw [show gm 262 (fun _ s=>dr s.owner z.origin) 0 z.ar (W3 z)=s9 z from rfl]
 rw [c9];refine ⟨fun ⟨hs1,es1⟩=>?_,fun ⟨hs1,es1⟩=>?_⟩
 ·simp only [↓wR,RA,simprocAttr,TF,ae,hs1]
  rw [show (((gy z).2:Int) == 1)=(decide ((gy z).1=1) && decide ((gy z).2=1)) from by rw [decide_eq_true (show (gy z).1=1 by omega),Bool.true_and,Bool.eq_iff_iff];simp;omega]
  refine eb (fun r st'=>r = .gb []∧st'=bq [some (.row [.vl false 1 (z.origin.map (aq.val false)),.vl false 5 (z.ar.map (ak.val false))] 0 2 26),some (.row [.vl false 1 (z.origin.map (aq.val false)),.vl false 5 (z.ar.map (ak.val false)),.sc (.int .i64 (dh (decide ((gy z).1=1) && decide ((gy z).2=1)) 263 (s9 z)))] 0 2 180)]) rfl ?_ ?_
  ·refine bt (T:=[en,dx,g6,jz,jy,jx,jb,l9,pn,l5]) ok mixed Tryz.func126 rfl (by kernel_rfl) (by kernel_rfl) (by kernel_rfl) (by kernel_rfl) ?_;unfold Tryz.f126
   simp only [↓wR,RA,simprocAttr,TF,ae]
   rw [c9];refine ⟨fun ⟨hn1,en1⟩=>?_,fun ⟨hn1,en1⟩=>?_⟩
   ·simp only [↓wR,RA,simprocAttr,TF,ae,hn1]
    rw [br];refine ⟨fun hn2=>?_,fun hn2=>?_⟩
    ·have hb:(decide ((gy z).1=1) && decide ((gy z).2=1))=false:=by simpa only [Bool.not_eq_true'] using hn2
     have hv:dh (decide ((gy z).1=1) && decide ((gy z).2=1)) 263 (s9 z)=263:=by unfold dh;rw [if_pos ⟨en1,hb⟩]
     simp only [↓wR,RA,simprocAttr,TF,ae,hn1,hn2,i7,ir,ic]
     try rw [hv]
    ·have hb:(decide ((gy z).1=1) && decide ((gy z).2=1))=true:=by simpa only [Bool.not_eq_false'] using hn2
     have hv:dh (decide ((gy z).1=1) && decide ((gy z).2=1)) 263 (s9 z)=s9 z:=by unfold dh;rw [if_neg (fun q=>by rw [hb] at q;cases q.2)]
     simp only [↓wR,RA,simprocAttr,TF,ae,hn1,hn2,i7,ir,ic]
     try rw [hv]
   ·have hv:dh (decide ((gy z).1=1) && decide ((gy z).2=1)) 263 (s9 z)=s9 z:=by unfold dh;rw [if_neg (fun q=>en1 q.1)]
    simp only [↓wR,RA,simprocAttr,TF,ae,hn1,i7,ir,ic]
    try rw [hv]
  rintro _ _ ⟨rfl,rfl⟩
  rw [show dh (decide ((gy z).1=1) && decide ((gy z).2=1)) 263 (s9 z)=og z from rfl]
  simp only [↓wR,RA,simprocAttr,TF,ae,g8]
  refine bt (T:=[]) (aj.nil PP) mixed Tryz.func127 rfl (by kernel_rfl) (by kernel_rfl) (by kernel_rfl) (by kernel_rfl) ?_;unfold Tryz.f127
  simp only [↓wR,RA,simprocAttr,TF,ae]
  refine ⟨[1,3,6,45],?_⟩
  have hib:tq PP 154=some (Tryz.f154.ntmps,Tryz.f154.body.getD .skip):=by kernel_rfl
  simp only [↓wR,RA,simprocAttr,TF,ae,hib]
  refine ⟨by kernel_rfl,fun l=>?_⟩
  unfold Tryz.f154
  simp only [↓wR,RA,simprocAttr,TF,ae]
  refine Hl [0,2,7,8,9] (fun (x:Nat × Bool)=>[.sc (.func (.yield l) #[] #[]),.ptr 4 0,.vl false 5 (z.ar.map (ak.val false)),.sc (.int .i64 (z.ar.length)),.sc (.int .i64 (x.1))]) (fun x=>[some (.row [.vl false 1 (z.origin.map (aq.val false)),.vl false 5 (z.ar.map (ak.val false))] 0 2 26),some (.row [.vl false 1 (z.origin.map (aq.val false)),.vl false 5 (z.ar.map (ak.val false)),.sc (.int .i64 (og z))] 0 2 180),some (.row [.sc (.bool (x.2))] 0 2 4),some (.row [.vl false 1 (z.origin.map (aq.val false)),.vl false 5 (z.ar.map (ak.val false))] 0 2 26),some (.row [.sc (.int .u16 2)] 0 2 28)]) (fun x=>x.1≤z.ar.length∧ij z=(x.2 || Ky z (z.ar.drop x.1))) (fun x=>z.ar.length - x.1) (0,false) ⟨Nat.zero_le _,by rw [Bool.false_or];rfl⟩ (by simp only [↓wR,RA,simprocAttr,TF,ae]<;>rfl) (by simp only [↓wR,RA,simprocAttr,TF,ae]<;>rfl) ?_
  rintro ⟨i,b⟩ ⟨hi,hx⟩
  simp only at hi hx
  simp only [↓wR,RA,simprocAttr,TF,ae]
  rw [ub];refine ⟨fun h=>?_,fun h=>?_⟩
  ·obtain ⟨c,hc,hd1,hlt⟩:=dv h
   have hcs:=hz.set c (List.mem_of_getElem? hc)
   rw [aik hd1] at hx
   simp only [↓wR,RA,simprocAttr,TF,ae,h,hc]
   rw [ub];refine ⟨fun h2=>?_,fun h2=>?_⟩
   ·have e2:(c.type.toNat:Int)=2:=by simpa using h2
    rw [decide_eq_true e2,Bool.true_and] at hx
    simp only [↓wR,RA,simprocAttr,TF,ae,h2]
    refine my [0,2,7,8,9,17,19] ?_
    simp only [↓wR,RA,simprocAttr,TF,ae,py,je]
    cases b with
    |true=>
     simp only [↓wR,RA,simprocAttr,TF,ae];repeat (simp (disch:=omega) only [ah,cb,cd,cg,cf];try simp only [↓wR,RA,simprocAttr,TF,ae])
     exact ⟨(i+1,true),⟨hlt,by rw [hx];rfl⟩,by simp;omega,by (first|rfl|trivial|omega|((try (simp (disch:=omega) only [ah]));(try (simp only [FB]));first|done|rfl|omega)),by (first|rfl|trivial|omega|((try (simp (disch:=omega) only [ah]));(try (simp only [FB]));first|done|rfl|omega))⟩
    |false=>
     simp only [↓wR,RA,simprocAttr,TF,ae,jc,hcs.owner,hz.origin];repeat (simp (disch:=omega) only [ah,cb,cd,cg,cf];try simp only [↓wR,RA,simprocAttr,TF,ae,jc,hcs.owner,hz.origin])
     exact ⟨(i+1,fi c.owner z.origin),⟨hlt,by rw [hx,Bool.false_or]⟩,by simp;omega,by (first|rfl|trivial|omega|((try (simp (disch:=omega) only [ah]));(try (simp only [FB]));first|done|rfl|omega)),by (first|rfl|trivial|omega|((try (simp (disch:=omega) only [ah]));(try (simp only [FB]));first|done|rfl|omega))⟩
   ·have e2:¬ (c.type.toNat:Int)=2:=by simpa using h2
    rw [decide_eq_false e2,Bool.false_and,Bool.false_or] at hx
    simp only [↓wR,RA,simprocAttr,TF,ae,h2];repeat (simp (disch:=omega) only [ah,cb,cd,cg,cf];try simp only [↓wR,RA,simprocAttr,TF,ae,h2])
    exact ⟨(i+1,b),⟨hlt,hx⟩,by simp;omega,by (first|rfl|trivial|omega|((try (simp (disch:=omega) only [ah]));(try (simp only [FB]));first|done|rfl|omega)),by (first|rfl|trivial|omega|((try (simp (disch:=omega) only [ah]));(try (simp only [FB]));first|done|rfl|omega))⟩
  rw [dz h] at hx
  have hb:b=ij z:=by rw [hx];simp [Ky]
  simp only [↓wR,RA,simprocAttr,TF,ae,h]
  rw [hb]
  clear h hx hb
  refine eb (fun r st'=>r = .gb []∧st'=bq [some (.row [.vl false 1 (z.origin.map (aq.val false)),.vl false 5 (z.ar.map (ak.val false))] 0 2 26),some (.row [.vl false 1 (z.origin.map (aq.val false)),.vl false 5 (z.ar.map (ak.val false)),.sc (.int .i64 (dh (ij z) 264 (og z)))] 0 2 180),some (.row [.sc (.bool (ij z))] 0 2 4),some (.row [.vl false 1 (z.origin.map (aq.val false)),.vl false 5 (z.ar.map (ak.val false))] 0 2 26),some (.row [.sc (.int .u16 2)] 0 2 28)]) rfl ?_ ?_
  ·refine bt (T:=[en,dx,g6,jz,jy,jx,jb,l9,pn,l5]) ok mixed Tryz.func126 rfl (by kernel_rfl) (by kernel_rfl) (by kernel_rfl) (by kernel_rfl) ?_;unfold Tryz.f126
   simp only [↓wR,RA,simprocAttr,TF,ae]
   rw [c9];refine ⟨fun ⟨hn1,en1⟩=>?_,fun ⟨hn1,en1⟩=>?_⟩
   ·simp only [↓wR,RA,simprocAttr,TF,ae,hn1]
    rw [br];refine ⟨fun hn2=>?_,fun hn2=>?_⟩
    ·have hb:(ij z)=false:=by simpa only [Bool.not_eq_true'] using hn2
     have hv:dh (ij z) 264 (og z)=264:=by unfold dh;rw [if_pos ⟨en1,hb⟩]
     simp only [↓wR,RA,simprocAttr,TF,ae,hn1,hn2,i7,ir,ic]
     try rw [hv]
    ·have hb:(ij z)=true:=by simpa only [Bool.not_eq_false'] using hn2
     have hv:dh (ij z) 264 (og z)=og z:=by unfold dh;rw [if_neg (fun q=>by rw [hb] at q;cases q.2)]
     simp only [↓wR,RA,simprocAttr,TF,ae,hn1,hn2,i7,ir,ic]
     try rw [hv]
   ·have hv:dh (ij z) 264 (og z)=og z:=by unfold dh;rw [if_neg (fun q=>en1 q.1)]
    simp only [↓wR,RA,simprocAttr,TF,ae,hn1,i7,ir,ic]
    try rw [hv]
  rintro _ _ ⟨rfl,rfl⟩
  rw [show dh (ij z) 264 (og z)=Gl z from rfl]
  simp only [↓wR,RA,simprocAttr,TF,ae,g8]
  obtain ⟨e0,he0⟩:∃ e0,Gl z=e0:=⟨_,rfl⟩
  rw [he0]
  refine eb (fun r st'=>r = .gb []∧st'=bq [some (.row [.vl false 1 (z.origin.map (aq.val false)),.vl false 5 (z.ar.map (ak.val false))] 0 2 26),some (.row [.vl false 1 (z.origin.map (aq.val false)),.vl false 5 (z.ar.map (ak.val false)),.sc (.int .i64 (gm 265 (jn z) 0 z.ar e0))] 0 2 180),some (.row [.sc (.bool (ij z))] 0 2 4),some (.row [.vl false 1 (z.origin.map (aq.val false)),.vl false 5 (z.ar.map (ak.val false))] 0 2 26),some (.row [.sc (.int .u16 2)] 0 2 28)]) rfl ?_ ?_
  ·refine bt (T:=[en,dx,g6,jz,jy,jx,jb,l9,pn,l5]) ok mixed Tryz.func121 rfl (by kernel_rfl) (by kernel_rfl) (by kernel_rfl) (by kernel_rfl) ?_;unfold Tryz.f121
   simp only [↓wR,RA,simprocAttr,TF,ae]
   refine di [0,1,2,12,13,14] (fun (x:Nat × Int)=>[.ptr 1 0,.sc (.int .i64 (265)),.fn (.func 128) [.ptr 1 0] [],.vl false 5 (z.ar.map (ak.val false)),.sc (.int .i64 (z.ar.length)),.sc (.int .i64 (x.1))]) (fun x=>[some (.row [.vl false 1 (z.origin.map (aq.val false)),.vl false 5 (z.ar.map (ak.val false))] 0 2 26),some (.row [.vl false 1 (z.origin.map (aq.val false)),.vl false 5 (z.ar.map (ak.val false)),.sc (.int .i64 (x.2))] 0 2 180),some (.row [.sc (.bool (ij z))] 0 2 4),some (.row [.vl false 1 (z.origin.map (aq.val false)),.vl false 5 (z.ar.map (ak.val false))] 0 2 26),some (.row [.sc (.int .u16 2)] 0 2 28)]) (fun x=>x.1≤z.ar.length∧gm 265 (jn z) 0 z.ar e0=gm 265 (jn z) x.1 (z.ar.drop x.1) x.2) (fun x=>z.ar.length - x.1) (0,e0) ⟨Nat.zero_le _,rfl⟩ (by simp only [↓wR,RA,simprocAttr,TF,ae]<;>rfl) (by simp only [↓wR,RA,simprocAttr,TF,ae]<;>rfl) ?_
   rintro ⟨i,e⟩ ⟨hi,hx⟩
   simp only at hi hx
   simp only [↓wR,RA,simprocAttr,TF,ae]
   rw [bm];refine ⟨fun h=>?_,fun h=>?_⟩
   ·obtain ⟨c,hc,hd1,hlt⟩:=dv (decide_eq_true h)
    rw [u6 hd1] at hx
    have hcs:=hz.set c (List.mem_of_getElem? hc)
    have hi2:(0:Int)≤i∧(i:Int)≤z.ar.length:=by omega
    simp only [↓wR,RA,simprocAttr,TF,ae,h,hc]
    rw [fg];refine ⟨fun ⟨h1,e1⟩=>?_,fun ⟨h1,e1⟩=>?_⟩
    ·rw [if_pos e1] at hx
     simp only [↓wR,RA,simprocAttr,TF,ae,h1,i7,ir,ic]
     rw [hx]
    ·rw [if_neg (by omega)] at hx
     simp only [↓wR,RA,simprocAttr,TF,ae,h1,hcs,hz,hi2,Fg]
     refine eb (fun r st'=>r = .gb []∧st'=bq [some (.row [.vl false 1 (z.origin.map (aq.val false)),.vl false 5 (z.ar.map (ak.val false))] 0 2 26),some (.row [.vl false 1 (z.origin.map (aq.val false)),.vl false 5 (z.ar.map (ak.val false)),.sc (.int .i64 (dh ((jn z) i c) 265 e))] 0 2 180),some (.row [.sc (.bool (ij z))] 0 2 4),some (.row [.vl false 1 (z.origin.map (aq.val false)),.vl false 5 (z.ar.map (ak.val false))] 0 2 26),some (.row [.sc (.int .u16 2)] 0 2 28),some (.row [.vl false 1 (c.owner.map (aq.val false)),.sc (.int .u16 c.type.toNat),.sc (.int .u16 c.cls.toNat),.sc (.int .u32 c.ot.toNat),.vl false 4 (c.data.map (bz.val false))] 0 2 40)]) rfl ?_ ?_
     ·refine bt (T:=[en,dx,g6,jz,jy,jx,jb,l9,pn,l5]) ok mixed Tryz.func126 rfl (by kernel_rfl) (by kernel_rfl) (by kernel_rfl) (by kernel_rfl) ?_;unfold Tryz.f126
      simp only [↓wR,RA,simprocAttr,TF,ae,e1]
      rw [br];refine ⟨fun hn2=>?_,fun hn2=>?_⟩
      ·have hb:((jn z) i c)=false:=by simpa only [Bool.not_eq_true'] using hn2
       have hv:dh ((jn z) i c) 265 0=265:=by unfold dh;rw [if_pos ⟨rfl,hb⟩]
       simp only [↓wR,RA,simprocAttr,TF,ae,hn2,i7,ir,ic]
       try rw [hv]
      ·have hb:((jn z) i c)=true:=by simpa only [Bool.not_eq_false'] using hn2
       have hv:dh ((jn z) i c) 265 0=0:=by unfold dh;rw [if_neg (fun q=>by rw [hb] at q;cases q.2)]
       simp only [↓wR,RA,simprocAttr,TF,ae,hn2,i7,ir,ic]
       try rw [hv]
     rintro _ _ ⟨rfl,rfl⟩
     simp only [↓wR,RA,simprocAttr,TF,ae,g8];repeat (simp (disch:=omega) only [ah,cb,cd,cg,cf];try simp only [↓wR,RA,simprocAttr,TF,ae,g8])
     exact ⟨(i+1,dh ((jn z) i c) 265 e),⟨hlt,hx⟩,by simp;omega,by (first|rfl|trivial|omega|((try (simp (disch:=omega) only [ah]));(try (simp only [FB]));first|done|rfl|omega)),by (first|rfl|trivial|omega|((try (simp (disch:=omega) only [ah]));(try (simp only [FB]));first|done|rfl|omega))⟩
   ·rw [dz (decide_eq_false h)] at hx
    simp only [↓wR,RA,simprocAttr,TF,ae,h,i7,ir,ic]
    rw [hx];rfl
  rintro _ _ ⟨rfl,rfl⟩
  rw [← he0]
  clear he0
  simp only [↓wR,RA,simprocAttr,TF,ae,g8]
  rw [show gm 265 (jn z) 0 z.ar (Gl z)=Gv z from rfl]
  obtain ⟨e0,he0⟩:∃ e0,Gv z=e0:=⟨_,rfl⟩
  rw [he0]
  refine eb (fun r st'=>r = .gb []∧st'=bq [some (.row [.vl false 1 (z.origin.map (aq.val false)),.vl false 5 (z.ar.map (ak.val false))] 0 2 26),some (.row [.vl false 1 (z.origin.map (aq.val false)),.vl false 5 (z.ar.map (ak.val false)),.sc (.int .i64 (gm 266 (fun _ s=>l0 s) 0 z.ar e0))] 0 2 180),some (.row [.sc (.bool (ij z))] 0 2 4),some (.row [.vl false 1 (z.origin.map (aq.val false)),.vl false 5 (z.ar.map (ak.val false))] 0 2 26),some (.row [.sc (.int .u16 2)] 0 2 28)]) rfl ?_ ?_
  ·refine bt (T:=[en,dx,g6,jz,jy,jx,jb,l9,pn,l5]) ok mixed Tryz.func121 rfl (by kernel_rfl) (by kernel_rfl) (by kernel_rfl) (by kernel_rfl) ?_;unfold Tryz.f121
   simp only [↓wR,RA,simprocAttr,TF,ae]
   refine di [0,1,2,12,13,14] (fun (x:Nat × Int)=>[.ptr 1 0,.sc (.int .i64 (266)),.sc (.func (.func 129) #[] #[]),.vl false 5 (z.ar.map (ak.val false)),.sc (.int .i64 (z.ar.length)),.sc (.int .i64 (x.1))]) (fun x=>[some (.row [.vl false 1 (z.origin.map (aq.val false)),.vl false 5 (z.ar.map (ak.val false))] 0 2 26),some (.row [.vl false 1 (z.origin.map (aq.val false)),.vl false 5 (z.ar.map (ak.val false)),.sc (.int .i64 (x.2))] 0 2 180),some (.row [.sc (.bool (ij z))] 0 2 4),some (.row [.vl false 1 (z.origin.map (aq.val false)),.vl false 5 (z.ar.map (ak.val false))] 0 2 26),some (.row [.sc (.int .u16 2)] 0 2 28)]) (fun x=>x.1≤z.ar.length∧gm 266 (fun _ s=>l0 s) 0 z.ar e0=gm 266 (fun _ s=>l0 s) x.1 (z.ar.drop x.1) x.2) (fun x=>z.ar.length - x.1) (0,e0) ⟨Nat.zero_le _,rfl⟩ (by simp only [↓wR,RA,simprocAttr,TF,ae]<;>rfl) (by simp only [↓wR,RA,simprocAttr,TF,ae]<;>rfl) ?_
   rintro ⟨i,e⟩ ⟨hi,hx⟩
   simp only at hi hx
   simp only [↓wR,RA,simprocAttr,TF,ae]
   rw [bm];refine ⟨fun h=>?_,fun h=>?_⟩
   ·obtain ⟨c,hc,hd1,hlt⟩:=dv (decide_eq_true h)
    rw [u6 hd1] at hx
    have hcs:=hz.set c (List.mem_of_getElem? hc)
    have hi2:(0:Int)≤i∧(i:Int)≤z.ar.length:=by omega
    simp only [↓wR,RA,simprocAttr,TF,ae,h,hc]
    rw [fg];refine ⟨fun ⟨h1,e1⟩=>?_,fun ⟨h1,e1⟩=>?_⟩
    ·rw [if_pos e1] at hx
     simp only [↓wR,RA,simprocAttr,TF,ae,h1,i7,ir,ic]
     rw [hx]
    ·rw [if_neg (by omega)] at hx
     simp only [↓wR,RA,simprocAttr,TF,ae,h1,hcs,hz,hi2,Jf]
     refine eb (fun r st'=>r = .gb []∧st'=bq [some (.row [.vl false 1 (z.origin.map (aq.val false)),.vl false 5 (z.ar.map (ak.val false))] 0 2 26),some (.row [.vl false 1 (z.origin.map (aq.val false)),.vl false 5 (z.ar.map (ak.val false)),.sc (.int .i64 (dh ((fun _ s=>l0 s) i c) 266 e))] 0 2 180),some (.row [.sc (.bool (ij z))] 0 2 4),some (.row [.vl false 1 (z.origin.map (aq.val false)),.vl false 5 (z.ar.map (ak.val false))] 0 2 26),some (.row [.sc (.int .u16 2)] 0 2 28),some (.row [.vl false 1 (c.owner.map (aq.val false)),.sc (.int .u16 c.type.toNat),.sc (.int .u16 c.cls.toNat),.sc (.int .u32 c.ot.toNat),.vl false 4 (c.data.map (bz.val false))] 0 2 40)]) rfl ?_ ?_
     ·refine bt (T:=[en,dx,g6,jz,jy,jx,jb,l9,pn,l5]) ok mixed Tryz.func126 rfl (by kernel_rfl) (by kernel_rfl) (by kernel_rfl) (by kernel_rfl) ?_;unfold Tryz.f126
      simp only [↓wR,RA,simprocAttr,TF,ae,e1]
      rw [br];refine ⟨fun hn2=>?_,fun hn2=>?_⟩
      ·have hb:((fun _ s=>l0 s) i c)=false:=by simpa only [Bool.not_eq_true'] using hn2
       have hv:dh ((fun _ s=>l0 s) i c) 266 0=266:=by unfold dh;rw [if_pos ⟨rfl,hb⟩]
       simp only [↓wR,RA,simprocAttr,TF,ae,hn2,i7,ir,ic]
       try rw [hv]
      ·have hb:((fun _ s=>l0 s) i c)=true:=by simpa only [Bool.not_eq_false'] using hn2
       have hv:dh ((fun _ s=>l0 s) i c) 266 0=0:=by unfold dh;rw [if_neg (fun q=>by rw [hb] at q;cases q.2)]
       simp only [↓wR,RA,simprocAttr,TF,ae,hn2,i7,ir,ic]
       try rw [hv]
     rintro _ _ ⟨rfl,rfl⟩
     simp only [↓wR,RA,simprocAttr,TF,ae,g8];repeat (simp (disch:=omega) only [ah,cb,cd,cg,cf];try simp only [↓wR,RA,simprocAttr,TF,ae,g8])
     exact ⟨(i+1,dh ((fun _ s=>l0 s) i c) 266 e),⟨hlt,hx⟩,by simp;omega,by (first|rfl|trivial|omega|((try (simp (disch:=omega) only [ah]));(try (simp only [FB]));first|done|rfl|omega)),by (first|rfl|trivial|omega|((try (simp (disch:=omega) only [ah]));(try (simp only [FB]));first|done|rfl|omega))⟩
   ·rw [dz (decide_eq_false h)] at hx
    simp only [↓wR,RA,simprocAttr,TF,ae,h,i7,ir,ic]
    rw [hx];rfl
  rintro _ _ ⟨rfl,rfl⟩
  rw [← he0]
  clear he0
  simp only [↓wR,RA,simprocAttr,TF,ae,g8]
  rw [show gm 266 (fun _ s=>l0 s) 0 z.ar (Gv z)=O8 z from rfl]
  obtain ⟨e0,he0⟩:∃ e0,O8 z=e0:=⟨_,rfl⟩
  rw [he0]
  refine eb (fun r st'=>r = .gb []∧st'=bq [some (.row [.vl false 1 (z.origin.map (aq.val false)),.vl false 5 (z.ar.map (ak.val false))] 0 2 26),some (.row [.vl false 1 (z.origin.map (aq.val false)),.vl false 5 (z.ar.map (ak.val false)),.sc (.int .i64 (gm 267 (fun _ s=>qs z s) 0 z.ar e0))] 0 2 180),some (.row [.sc (.bool (ij z))] 0 2 4),some (.row [.vl false 1 (z.origin.map (aq.val false)),.vl false 5 (z.ar.map (ak.val false))] 0 2 26),some (.row [.sc (.int .u16 2)] 0 2 28)]) rfl ?_ ?_
  ·refine bt (T:=[en,dx,g6,jz,jy,jx,jb,l9,pn,l5]) ok mixed Tryz.func121 rfl (by kernel_rfl) (by kernel_rfl) (by kernel_rfl) (by kernel_rfl) ?_;unfold Tryz.f121
   simp only [↓wR,RA,simprocAttr,TF,ae]
   refine di [0,1,2,12,13,14] (fun (x:Nat × Int)=>[.ptr 1 0,.sc (.int .i64 (267)),.fn (.func 130) [] [.ptr 0 0],.vl false 5 (z.ar.map (ak.val false)),.sc (.int .i64 (z.ar.length)),.sc (.int .i64 (x.1))]) (fun x=>[some (.row [.vl false 1 (z.origin.map (aq.val false)),.vl false 5 (z.ar.map (ak.val false))] 0 2 26),some (.row [.vl false 1 (z.origin.map (aq.val false)),.vl false 5 (z.ar.map (ak.val false)),.sc (.int .i64 (x.2))] 0 2 180),some (.row [.sc (.bool (ij z))] 0 2 4),some (.row [.vl false 1 (z.origin.map (aq.val false)),.vl false 5 (z.ar.map (ak.val false))] 0 2 26),some (.row [.sc (.int .u16 2)] 0 2 28)]) (fun x=>x.1≤z.ar.length∧gm 267 (fun _ s=>qs z s) 0 z.ar e0=gm 267 (fun _ s=>qs z s) x.1 (z.ar.drop x.1) x.2) (fun x=>z.ar.length - x.1) (0,e0) ⟨Nat.zero_le _,rfl⟩ (by simp only [↓wR,RA,simprocAttr,TF,ae]<;>rfl) (by simp only [↓wR,RA,simprocAttr,TF,ae]<;>rfl) ?_
   rintro ⟨i,e⟩ ⟨hi,hx⟩
   simp only at hi hx
   simp only [↓wR,RA,simprocAttr,TF,ae]
   rw [bm];refine ⟨fun h=>?_,fun h=>?_⟩
   ·obtain ⟨c,hc,hd1,hlt⟩:=dv (decide_eq_true h)
    rw [u6 hd1] at hx
    have hcs:=hz.set c (List.mem_of_getElem? hc)
    have hi2:(0:Int)≤i∧(i:Int)≤z.ar.length:=by omega
    simp only [↓wR,RA,simprocAttr,TF,ae,h,hc]
    rw [fg];refine ⟨fun ⟨h1,e1⟩=>?_,fun ⟨h1,e1⟩=>?_⟩
    ·rw [if_pos e1] at hx
     simp only [↓wR,RA,simprocAttr,TF,ae,h1,i7,ir,ic]
     rw [hx]
    ·rw [if_neg (by omega)] at hx
     simp only [↓wR,RA,simprocAttr,TF,ae,h1,hcs,hz,hi2,P0]
     refine eb (fun r st'=>r = .gb []∧st'=bq [some (.row [.vl false 1 (z.origin.map (aq.val false)),.vl false 5 (z.ar.map (ak.val false))] 0 2 26),some (.row [.vl false 1 (z.origin.map (aq.val false)),.vl false 5 (z.ar.map (ak.val false)),.sc (.int .i64 (dh ((fun _ s=>qs z s) i c) 267 e))] 0 2 180),some (.row [.sc (.bool (ij z))] 0 2 4),some (.row [.vl false 1 (z.origin.map (aq.val false)),.vl false 5 (z.ar.map (ak.val false))] 0 2 26),some (.row [.sc (.int .u16 2)] 0 2 28),some (.row [.vl false 1 (c.owner.map (aq.val false)),.sc (.int .u16 c.type.toNat),.sc (.int .u16 c.cls.toNat),.sc (.int .u32 c.ot.toNat),.vl false 4 (c.data.map (bz.val false))] 0 2 40)]) rfl ?_ ?_
     ·refine bt (T:=[en,dx,g6,jz,jy,jx,jb,l9,pn,l5]) ok mixed Tryz.func126 rfl (by kernel_rfl) (by kernel_rfl) (by kernel_rfl) (by kernel_rfl) ?_;unfold Tryz.f126
      simp only [↓wR,RA,simprocAttr,TF,ae,e1]
      rw [br];refine ⟨fun hn2=>?_,fun hn2=>?_⟩
      ·have hb:((fun _ s=>qs z s) i c)=false:=by simpa only [Bool.not_eq_true'] using hn2
       have hv:dh ((fun _ s=>qs z s) i c) 267 0=267:=by unfold dh;rw [if_pos ⟨rfl,hb⟩]
       simp only [↓wR,RA,simprocAttr,TF,ae,hn2,i7,ir,ic]
       try rw [hv]
      ·have hb:((fun _ s=>qs z s) i c)=true:=by simpa only [Bool.not_eq_false'] using hn2
       have hv:dh ((fun _ s=>qs z s) i c) 267 0=0:=by unfold dh;rw [if_neg (fun q=>by rw [hb] at q;cases q.2)]
       simp only [↓wR,RA,simprocAttr,TF,ae,hn2,i7,ir,ic]
       try rw [hv]
     rintro _ _ ⟨rfl,rfl⟩
     simp only [↓wR,RA,simprocAttr,TF,ae,g8];repeat (simp (disch:=omega) only [ah,cb,cd,cg,cf];try simp only [↓wR,RA,simprocAttr,TF,ae,g8])
     exact ⟨(i+1,dh ((fun _ s=>qs z s) i c) 267 e),⟨hlt,hx⟩,by simp;omega,by (first|rfl|trivial|omega|((try (simp (disch:=omega) only [ah]));(try (simp only [FB]));first|done|rfl|omega)),by (first|rfl|trivial|omega|((try (simp (disch:=omega) only [ah]));(try (simp only [FB]));first|done|rfl|omega))⟩
   ·rw [dz (decide_eq_false h)] at hx
    simp only [↓wR,RA,simprocAttr,TF,ae,h,i7,ir,ic]
    rw [hx];rfl
  rintro _ _ ⟨rfl,rfl⟩
  rw [← he0]
  clear he0
  simp only [↓wR,RA,simprocAttr,TF,ae,g8]
  rfl
 ·simp only [↓wR,RA,simprocAttr,TF,ae,hs1]
  have hbf:(decide ((gy z).1=1) && decide ((gy z).2=1))=false:=by rw [decide_eq_false (show ¬ (gy z).1=1 by omega),Bool.false_and]
  refine eb (fun r st'=>r = .gb []∧st'=bq [some (.row [.vl false 1 (z.origin.map (aq.val false)),.vl false 5 (z.ar.map (ak.val false))] 0 2 26),some (.row [.vl false 1 (z.origin.map (aq.val false)),.vl false 5 (z.ar.map (ak.val false)),.sc (.int .i64 (dh (decide ((gy z).1=1) && decide ((gy z).2=1)) 263 (s9 z)))] 0 2 180)]) rfl ?_ ?_
  ·refine bt (T:=[en,dx,g6,jz,jy,jx,jb,l9,pn,l5]) ok mixed Tryz.func126 rfl (by kernel_rfl) (by kernel_rfl) (by kernel_rfl) (by kernel_rfl) ?_;unfold Tryz.f126
   simp only [↓wR,RA,simprocAttr,TF,ae]
   rw [c9];refine ⟨fun ⟨hn1,en1⟩=>?_,fun ⟨hn1,en1⟩=>?_⟩
   ·have hv:dh (decide ((gy z).1=1) && decide ((gy z).2=1)) 263 (s9 z)=263:=by unfold dh;rw [if_pos ⟨en1,hbf⟩]
    simp only [↓wR,RA,simprocAttr,TF,ae,hn1,i7,ir,ic]
    try rw [hv]
   ·have hv:dh (decide ((gy z).1=1) && decide ((gy z).2=1)) 263 (s9 z)=s9 z:=by unfold dh;rw [if_neg (fun q=>en1 q.1)]
    simp only [↓wR,RA,simprocAttr,TF,ae,hn1,i7,ir,ic]
    try rw [hv]
  rintro _ _ ⟨rfl,rfl⟩
  rw [show dh (decide ((gy z).1=1) && decide ((gy z).2=1)) 263 (s9 z)=og z from rfl]
  simp only [↓wR,RA,simprocAttr,TF,ae,g8]
  refine bt (T:=[]) (aj.nil PP) mixed Tryz.func127 rfl (by kernel_rfl) (by kernel_rfl) (by kernel_rfl) (by kernel_rfl) ?_;unfold Tryz.f127
  simp only [↓wR,RA,simprocAttr,TF,ae]
  refine ⟨[1,3,6,45],?_⟩
  have hib:tq PP 154=some (Tryz.f154.ntmps,Tryz.f154.body.getD .skip):=by kernel_rfl
  simp only [↓wR,RA,simprocAttr,TF,ae,hib]
  refine ⟨by kernel_rfl,fun l=>?_⟩
  unfold Tryz.f154
  simp only [↓wR,RA,simprocAttr,TF,ae]
  refine Hl [0,2,7,8,9] (fun (x:Nat × Bool)=>[.sc (.func (.yield l) #[] #[]),.ptr 4 0,.vl false 5 (z.ar.map (ak.val false)),.sc (.int .i64 (z.ar.length)),.sc (.int .i64 (x.1))]) (fun x=>[some (.row [.vl false 1 (z.origin.map (aq.val false)),.vl false 5 (z.ar.map (ak.val false))] 0 2 26),some (.row [.vl false 1 (z.origin.map (aq.val false)),.vl false 5 (z.ar.map (ak.val false)),.sc (.int .i64 (og z))] 0 2 180),some (.row [.sc (.bool (x.2))] 0 2 4),some (.row [.vl false 1 (z.origin.map (aq.val false)),.vl false 5 (z.ar.map (ak.val false))] 0 2 26),some (.row [.sc (.int .u16 2)] 0 2 28)]) (fun x=>x.1≤z.ar.length∧ij z=(x.2 || Ky z (z.ar.drop x.1))) (fun x=>z.ar.length - x.1) (0,false) ⟨Nat.zero_le _,by rw [Bool.false_or];rfl⟩ (by simp only [↓wR,RA,simprocAttr,TF,ae]<;>rfl) (by simp only [↓wR,RA,simprocAttr,TF,ae]<;>rfl) ?_
  rintro ⟨i,b⟩ ⟨hi,hx⟩
  simp only at hi hx
  simp only [↓wR,RA,simprocAttr,TF,ae]
  rw [ub];refine ⟨fun h=>?_,fun h=>?_⟩
  ·obtain ⟨c,hc,hd1,hlt⟩:=dv h
   have hcs:=hz.set c (List.mem_of_getElem? hc)
   rw [aik hd1] at hx
   simp only [↓wR,RA,simprocAttr,TF,ae,h,hc]
   rw [ub];refine ⟨fun h2=>?_,fun h2=>?_⟩
   ·have e2:(c.type.toNat:Int)=2:=by simpa using h2
    rw [decide_eq_true e2,Bool.true_and] at hx
    simp only [↓wR,RA,simprocAttr,TF,ae,h2]
    refine my [0,2,7,8,9,17,19] ?_
    simp only [↓wR,RA,simprocAttr,TF,ae,py,je]
    cases b with
    |true=>
     simp only [↓wR,RA,simprocAttr,TF,ae];repeat (simp (disch:=omega) only [ah,cb,cd,cg,cf];try simp only [↓wR,RA,simprocAttr,TF,ae])
     exact ⟨(i+1,true),⟨hlt,by rw [hx];rfl⟩,by simp;omega,by (first|rfl|trivial|omega|((try (simp (disch:=omega) only [ah]));(try (simp only [FB]));first|done|rfl|omega)),by (first|rfl|trivial|omega|((try (simp (disch:=omega) only [ah]));(try (simp only [FB]));first|done|rfl|omega))⟩
    |false=>
     simp only [↓wR,RA,simprocAttr,TF,ae,jc,hcs.owner,hz.origin];repeat (simp (disch:=omega) only [ah,cb,cd,cg,cf];try simp only [↓wR,RA,simprocAttr,TF,ae,jc,hcs.owner,hz.origin])
     exact ⟨(i+1,fi c.owner z.origin),⟨hlt,by rw [hx,Bool.false_or]⟩,by simp;omega,by (first|rfl|trivial|omega|((try (simp (disch:=omega) only [ah]));(try (simp only [FB]));first|done|rfl|omega)),by (first|rfl|trivial|omega|((try (simp (disch:=omega) only [ah]));(try (simp only [FB]));first|done|rfl|omega))⟩
   ·have e2:¬ (c.type.toNat:Int)=2:=by simpa using h2
    rw [decide_eq_false e2,Bool.false_and,Bool.false_or] at hx
    simp only [↓wR,RA,simprocAttr,TF,ae,h2];repeat (simp (disch:=omega) only [ah,cb,cd,cg,cf];try simp only [↓wR,RA,simprocAttr,TF,ae,h2])
    exact ⟨(i+1,b),⟨hlt,hx⟩,by simp;omega,by (first|rfl|trivial|omega|((try (simp (disch:=omega) only [ah]));(try (simp only [FB]));first|done|rfl|omega)),by (first|rfl|trivial|omega|((try (simp (disch:=omega) only [ah]));(try (simp only [FB]));first|done|rfl|omega))⟩
  rw [dz h] at hx
  have hb:b=ij z:=by rw [hx];simp [Ky]
  simp only [↓wR,RA,simprocAttr,TF,ae,h]
  rw [hb]
  clear h hx hb
  refine eb (fun r st'=>r = .gb []∧st'=bq [some (.row [.vl false 1 (z.origin.map (aq.val false)),.vl false 5 (z.ar.map (ak.val false))] 0 2 26),some (.row [.vl false 1 (z.origin.map (aq.val false)),.vl false 5 (z.ar.map (ak.val false)),.sc (.int .i64 (dh (ij z) 264 (og z)))] 0 2 180),some (.row [.sc (.bool (ij z))] 0 2 4),some (.row [.vl false 1 (z.origin.map (aq.val false)),.vl false 5 (z.ar.map (ak.val false))] 0 2 26),some (.row [.sc (.int .u16 2)] 0 2 28)]) rfl ?_ ?_
  ·refine bt (T:=[en,dx,g6,jz,jy,jx,jb,l9,pn,l5]) ok mixed Tryz.func126 rfl (by kernel_rfl) (by kernel_rfl) (by kernel_rfl) (by kernel_rfl) ?_;unfold Tryz.f126
   simp only [↓wR,RA,simprocAttr,TF,ae]
   rw [c9];refine ⟨fun ⟨hn1,en1⟩=>?_,fun ⟨hn1,en1⟩=>?_⟩
   ·simp only [↓wR,RA,simprocAttr,TF,ae,hn1]
    rw [br];refine ⟨fun hn2=>?_,fun hn2=>?_⟩
    ·have hb:(ij z)=false:=by simpa only [Bool.not_eq_true'] using hn2
     have hv:dh (ij z) 264 (og z)=264:=by unfold dh;rw [if_pos ⟨en1,hb⟩]
     simp only [↓wR,RA,simprocAttr,TF,ae,hn1,hn2,i7,ir,ic]
     try rw [hv]
    ·have hb:(ij z)=true:=by simpa only [Bool.not_eq_false'] using hn2
     have hv:dh (ij z) 264 (og z)=og z:=by unfold dh;rw [if_neg (fun q=>by rw [hb] at q;cases q.2)]
     simp only [↓wR,RA,simprocAttr,TF,ae,hn1,hn2,i7,ir,ic]
     try rw [hv]
   ·have hv:dh (ij z) 264 (og z)=og z:=by unfold dh;rw [if_neg (fun q=>en1 q.1)]
    simp only [↓wR,RA,simprocAttr,TF,ae,hn1,i7,ir,ic]
    try rw [hv]
  rintro _ _ ⟨rfl,rfl⟩
  rw [show dh (ij z) 264 (og z)=Gl z from rfl]
  simp only [↓wR,RA,simprocAttr,TF,ae,g8]
  obtain ⟨e0,he0⟩:∃ e0,Gl z=e0:=⟨_,rfl⟩
  rw [he0]
  refine eb (fun r st'=>r = .gb []∧st'=bq [some (.row [.vl false 1 (z.origin.map (aq.val false)),.vl false 5 (z.ar.map (ak.val false))] 0 2 26),some (.row [.vl false 1 (z.origin.map (aq.val false)),.vl false 5 (z.ar.map (ak.val false)),.sc (.int .i64 (gm 265 (jn z) 0 z.ar e0))] 0 2 180),some (.row [.sc (.bool (ij z))] 0 2 4),some (.row [.vl false 1 (z.origin.map (aq.val false)),.vl false 5 (z.ar.map (ak.val false))] 0 2 26),some (.row [.sc (.int .u16 2)] 0 2 28)]) rfl ?_ ?_
  ·refine bt (T:=[en,dx,g6,jz,jy,jx,jb,l9,pn,l5]) ok mixed Tryz.func121 rfl (by kernel_rfl) (by kernel_rfl) (by kernel_rfl) (by kernel_rfl) ?_;unfold Tryz.f121
   simp only [↓wR,RA,simprocAttr,TF,ae]
   refine di [0,1,2,12,13,14] (fun (x:Nat × Int)=>[.ptr 1 0,.sc (.int .i64 (265)),.fn (.func 128) [.ptr 1 0] [],.vl false 5 (z.ar.map (ak.val false)),.sc (.int .i64 (z.ar.length)),.sc (.int .i64 (x.1))]) (fun x=>[some (.row [.vl false 1 (z.origin.map (aq.val false)),.vl false 5 (z.ar.map (ak.val false))] 0 2 26),some (.row [.vl false 1 (z.origin.map (aq.val false)),.vl false 5 (z.ar.map (ak.val false)),.sc (.int .i64 (x.2))] 0 2 180),some (.row [.sc (.bool (ij z))] 0 2 4),some (.row [.vl false 1 (z.origin.map (aq.val false)),.vl false 5 (z.ar.map (ak.val false))] 0 2 26),some (.row [.sc (.int .u16 2)] 0 2 28)]) (fun x=>x.1≤z.ar.length∧gm 265 (jn z) 0 z.ar e0=gm 265 (jn z) x.1 (z.ar.drop x.1) x.2) (fun x=>z.ar.length - x.1) (0,e0) ⟨Nat.zero_le _,rfl⟩ (by simp only [↓wR,RA,simprocAttr,TF,ae]<;>rfl) (by simp only [↓wR,RA,simprocAttr,TF,ae]<;>rfl) ?_
   rintro ⟨i,e⟩ ⟨hi,hx⟩
   simp only at hi hx
   simp only [↓wR,RA,simprocAttr,TF,ae]
   rw [bm];refine ⟨fun h=>?_,fun h=>?_⟩
   ·obtain ⟨c,hc,hd1,hlt⟩:=dv (decide_eq_true h)
    rw [u6 hd1] at hx
    have hcs:=hz.set c (List.mem_of_getElem? hc)
    have hi2:(0:Int)≤i∧(i:Int)≤z.ar.length:=by omega
    simp only [↓wR,RA,simprocAttr,TF,ae,h,hc]
    rw [fg];refine ⟨fun ⟨h1,e1⟩=>?_,fun ⟨h1,e1⟩=>?_⟩
    ·rw [if_pos e1] at hx
     simp only [↓wR,RA,simprocAttr,TF,ae,h1,i7,ir,ic]
     rw [hx]
    ·rw [if_neg (by omega)] at hx
     simp only [↓wR,RA,simprocAttr,TF,ae,h1,hcs,hz,hi2,Fg]
     refine eb (fun r st'=>r = .gb []∧st'=bq [some (.row [.vl false 1 (z.origin.map (aq.val false)),.vl false 5 (z.ar.map (ak.val false))] 0 2 26),some (.row [.vl false 1 (z.origin.map (aq.val false)),.vl false 5 (z.ar.map (ak.val false)),.sc (.int .i64 (dh ((jn z) i c) 265 e))] 0 2 180),some (.row [.sc (.bool (ij z))] 0 2 4),some (.row [.vl false 1 (z.origin.map (aq.val false)),.vl false 5 (z.ar.map (ak.val false))] 0 2 26),some (.row [.sc (.int .u16 2)] 0 2 28),some (.row [.vl false 1 (c.owner.map (aq.val false)),.sc (.int .u16 c.type.toNat),.sc (.int .u16 c.cls.toNat),.sc (.int .u32 c.ot.toNat),.vl false 4 (c.data.map (bz.val false))] 0 2 40)]) rfl ?_ ?_
     ·refine bt (T:=[en,dx,g6,jz,jy,jx,jb,l9,pn,l5]) ok mixed Tryz.func126 rfl (by kernel_rfl) (by kernel_rfl) (by kernel_rfl) (by kernel_rfl) ?_;unfold Tryz.f126
      simp only [↓wR,RA,simprocAttr,TF,ae,e1]
      rw [br];refine ⟨fun hn2=>?_,fun hn2=>?_⟩
      ·have hb:((jn z) i c)=false:=by simpa only [Bool.not_eq_true'] using hn2
       have hv:dh ((jn z) i c) 265 0=265:=by unfold dh;rw [if_pos ⟨rfl,hb⟩]
       simp only [↓wR,RA,simprocAttr,TF,ae,hn2,i7,ir,ic]
       try rw [hv]
      ·have hb:((jn z) i c)=true:=by simpa only [Bool.not_eq_false'] using hn2
       have hv:dh ((jn z) i c) 265 0=0:=by unfold dh;rw [if_neg (fun q=>by rw [hb] at q;cases q.2)]
       simp only [↓wR,RA,simprocAttr,TF,ae,hn2,i7,ir,ic]
       try rw [hv]
     rintro _ _ ⟨rfl,rfl⟩
     simp only [↓wR,RA,simprocAttr,TF,ae,g8];repeat (simp (disch:=omega) only [ah,cb,cd,cg,cf];try simp only [↓wR,RA,simprocAttr,TF,ae,g8])
     exact ⟨(i+1,dh ((jn z) i c) 265 e),⟨hlt,hx⟩,by simp;omega,by (first|rfl|trivial|omega|((try (simp (disch:=omega) only [ah]));(try (simp only [FB]));first|done|rfl|omega)),by (first|rfl|trivial|omega|((try (simp (disch:=omega) only [ah]));(try (simp only [FB]));first|done|rfl|omega))⟩
   ·rw [dz (decide_eq_false h)] at hx
    simp only [↓wR,RA,simprocAttr,TF,ae,h,i7,ir,ic]
    rw [hx];rfl
  rintro _ _ ⟨rfl,rfl⟩
  rw [← he0]
  clear he0
  simp only [↓wR,RA,simprocAttr,TF,ae,g8]
  rw [show gm 265 (jn z) 0 z.ar (Gl z)=Gv z from rfl]
  obtain ⟨e0,he0⟩:∃ e0,Gv z=e0:=⟨_,rfl⟩
  rw [he0]
  refine eb (fun r st'=>r = .gb []∧st'=bq [some (.row [.vl false 1 (z.origin.map (aq.val false)),.vl false 5 (z.ar.map (ak.val false))] 0 2 26),some (.row [.vl false 1 (z.origin.map (aq.val false)),.vl false 5 (z.ar.map (ak.val false)),.sc (.int .i64 (gm 266 (fun _ s=>l0 s) 0 z.ar e0))] 0 2 180),some (.row [.sc (.bool (ij z))] 0 2 4),some (.row [.vl false 1 (z.origin.map (aq.val false)),.vl false 5 (z.ar.map (ak.val false))] 0 2 26),some (.row [.sc (.int .u16 2)] 0 2 28)]) rfl ?_ ?_
  ·refine bt (T:=[en,dx,g6,jz,jy,jx,jb,l9,pn,l5]) ok mixed Tryz.func121 rfl (by kernel_rfl) (by kernel_rfl) (by kernel_rfl) (by kernel_rfl) ?_;unfold Tryz.f121
   simp only [↓wR,RA,simprocAttr,TF,ae]
   refine di [0,1,2,12,13,14] (fun (x:Nat × Int)=>[.ptr 1 0,.sc (.int .i64 (266)),.sc (.func (.func 129) #[] #[]),.vl false 5 (z.ar.map (ak.val false)),.sc (.int .i64 (z.ar.length)),.sc (.int .i64 (x.1))]) (fun x=>[some (.row [.vl false 1 (z.origin.map (aq.val false)),.vl false 5 (z.ar.map (ak.val false))] 0 2 26),some (.row [.vl false 1 (z.origin.map (aq.val false)),.vl false 5 (z.ar.map (ak.val false)),.sc (.int .i64 (x.2))] 0 2 180),some (.row [.sc (.bool (ij z))] 0 2 4),some (.row [.vl false 1 (z.origin.map (aq.val false)),.vl false 5 (z.ar.map (ak.val false))] 0 2 26),some (.row [.sc (.int .u16 2)] 0 2 28)]) (fun x=>x.1≤z.ar.length∧gm 266 (fun _ s=>l0 s) 0 z.ar e0=gm 266 (fun _ s=>l0 s) x.1 (z.ar.drop x.1) x.2) (fun x=>z.ar.length - x.1) (0,e0) ⟨Nat.zero_le _,rfl⟩ (by simp only [↓wR,RA,simprocAttr,TF,ae]<;>rfl) (by simp only [↓wR,RA,simprocAttr,TF,ae]<;>rfl) ?_
   rintro ⟨i,e⟩ ⟨hi,hx⟩
   simp only at hi hx
   simp only [↓wR,RA,simprocAttr,TF,ae]
   rw [bm];refine ⟨fun h=>?_,fun h=>?_⟩
   ·obtain ⟨c,hc,hd1,hlt⟩:=dv (decide_eq_true h)
    rw [u6 hd1] at hx
    have hcs:=hz.set c (List.mem_of_getElem? hc)
    have hi2:(0:Int)≤i∧(i:Int)≤z.ar.length:=by omega
    simp only [↓wR,RA,simprocAttr,TF,ae,h,hc]
    rw [fg];refine ⟨fun ⟨h1,e1⟩=>?_,fun ⟨h1,e1⟩=>?_⟩
    ·rw [if_pos e1] at hx
     simp only [↓wR,RA,simprocAttr,TF,ae,h1,i7,ir,ic]
     rw [hx]
    ·rw [if_neg (by omega)] at hx
     simp only [↓wR,RA,simprocAttr,TF,ae,h1,hcs,hz,hi2,Jf]
     refine eb (fun r st'=>r = .gb []∧st'=bq [some (.row [.vl false 1 (z.origin.map (aq.val false)),.vl false 5 (z.ar.map (ak.val false))] 0 2 26),some (.row [.vl false 1 (z.origin.map (aq.val false)),.vl false 5 (z.ar.map (ak.val false)),.sc (.int .i64 (dh ((fun _ s=>l0 s) i c) 266 e))] 0 2 180),some (.row [.sc (.bool (ij z))] 0 2 4),some (.row [.vl false 1 (z.origin.map (aq.val false)),.vl false 5 (z.ar.map (ak.val false))] 0 2 26),some (.row [.sc (.int .u16 2)] 0 2 28),some (.row [.vl false 1 (c.owner.map (aq.val false)),.sc (.int .u16 c.type.toNat),.sc (.int .u16 c.cls.toNat),.sc (.int .u32 c.ot.toNat),.vl false 4 (c.data.map (bz.val false))] 0 2 40)]) rfl ?_ ?_
     ·refine bt (T:=[en,dx,g6,jz,jy,jx,jb,l9,pn,l5]) ok mixed Tryz.func126 rfl (by kernel_rfl) (by kernel_rfl) (by kernel_rfl) (by kernel_rfl) ?_;unfold Tryz.f126
      simp only [↓wR,RA,simprocAttr,TF,ae,e1]
      rw [br];refine ⟨fun hn2=>?_,fun hn2=>?_⟩
      ·have hb:((fun _ s=>l0 s) i c)=false:=by simpa only [Bool.not_eq_true'] using hn2
       have hv:dh ((fun _ s=>l0 s) i c) 266 0=266:=by unfold dh;rw [if_pos ⟨rfl,hb⟩]
       simp only [↓wR,RA,simprocAttr,TF,ae,hn2,i7,ir,ic]
       try rw [hv]
      ·have hb:((fun _ s=>l0 s) i c)=true:=by simpa only [Bool.not_eq_false'] using hn2
       have hv:dh ((fun _ s=>l0 s) i c) 266 0=0:=by unfold dh;rw [if_neg (fun q=>by rw [hb] at q;cases q.2)]
       simp only [↓wR,RA,simprocAttr,TF,ae,hn2,i7,ir,ic]
       try rw [hv]
     rintro _ _ ⟨rfl,rfl⟩
     simp only [↓wR,RA,simprocAttr,TF,ae,g8];repeat (simp (disch:=omega) only [ah,cb,cd,cg,cf];try simp only [↓wR,RA,simprocAttr,TF,ae,g8])
     exact ⟨(i+1,dh ((fun _ s=>l0 s) i c) 266 e),⟨hlt,hx⟩,by simp;omega,by (first|rfl|trivial|omega|((try (simp (disch:=omega) only [ah]));(try (simp only [FB]));first|done|rfl|omega)),by (first|rfl|trivial|omega|((try (simp (disch:=omega) only [ah]));(try (simp only [FB]));first|done|rfl|omega))⟩
   ·rw [dz (decide_eq_false h)] at hx
    simp only [↓wR,RA,simprocAttr,TF,ae,h,i7,ir,ic]
    rw [hx];rfl
  rintro _ _ ⟨rfl,rfl⟩
  rw [← he0]
  clear he0
  simp only [↓wR,RA,simprocAttr,TF,ae,g8]
  rw [show gm 266 (fun _ s=>l0 s) 0 z.ar (Gv z)=O8 z from rfl]
  obtain ⟨e0,he0⟩:∃ e0,O8 z=e0:=⟨_,rfl⟩
  rw [he0]
  refine eb (fun r st'=>r = .gb []∧st'=bq [some (.row [.vl false 1 (z.origin.map (aq.val false)),.vl false 5 (z.ar.map (ak.val false))] 0 2 26),some (.row [.vl false 1 (z.origin.map (aq.val false)),.vl false 5 (z.ar.map (ak.val false)),.sc (.int .i64 (gm 267 (fun _ s=>qs z s) 0 z.ar e0))] 0 2 180),some (.row [.sc (.bool (ij z))] 0 2 4),some (.row [.vl false 1 (z.origin.map (aq.val false)),.vl false 5 (z.ar.map (ak.val false))] 0 2 26),some (.row [.sc (.int .u16 2)] 0 2 28)]) rfl ?_ ?_
  ·refine bt (T:=[en,dx,g6,jz,jy,jx,jb,l9,pn,l5]) ok mixed Tryz.func121 rfl (by kernel_rfl) (by kernel_rfl) (by kernel_rfl) (by kernel_rfl) ?_;unfold Tryz.f121
   simp only [↓wR,RA,simprocAttr,TF,ae]
   refine di [0,1,2,12,13,14] (fun (x:Nat × Int)=>[.ptr 1 0,.sc (.int .i64 (267)),.fn (.func 130) [] [.ptr 0 0],.vl false 5 (z.ar.map (ak.val false)),.sc (.int .i64 (z.ar.length)),.sc (.int .i64 (x.1))]) (fun x=>[some (.row [.vl false 1 (z.origin.map (aq.val false)),.vl false 5 (z.ar.map (ak.val false))] 0 2 26),some (.row [.vl false 1 (z.origin.map (aq.val false)),.vl false 5 (z.ar.map (ak.val false)),.sc (.int .i64 (x.2))] 0 2 180),some (.row [.sc (.bool (ij z))] 0 2 4),some (.row [.vl false 1 (z.origin.map (aq.val false)),.vl false 5 (z.ar.map (ak.val false))] 0 2 26),some (.row [.sc (.int .u16 2)] 0 2 28)]) (fun x=>x.1≤z.ar.length∧gm 267 (fun _ s=>qs z s) 0 z.ar e0=gm 267 (fun _ s=>qs z s) x.1 (z.ar.drop x.1) x.2) (fun x=>z.ar.length - x.1) (0,e0) ⟨Nat.zero_le _,rfl⟩ (by simp only [↓wR,RA,simprocAttr,TF,ae]<;>rfl) (by simp only [↓wR,RA,simprocAttr,TF,ae]<;>rfl) ?_
   rintro ⟨i,e⟩ ⟨hi,hx⟩
   simp only at hi hx
   simp only [↓wR,RA,simprocAttr,TF,ae]
   rw [bm];refine ⟨fun h=>?_,fun h=>?_⟩
   ·obtain ⟨c,hc,hd1,hlt⟩:=dv (decide_eq_true h)
    rw [u6 hd1] at hx
    have hcs:=hz.set c (List.mem_of_getElem? hc)
    have hi2:(0:Int)≤i∧(i:Int)≤z.ar.length:=by omega
    simp only [↓wR,RA,simprocAttr,TF,ae,h,hc]
    rw [fg];refine ⟨fun ⟨h1,e1⟩=>?_,fun ⟨h1,e1⟩=>?_⟩
    ·rw [if_pos e1] at hx
     simp only [↓wR,RA,simprocAttr,TF,ae,h1,i7,ir,ic]
     rw [hx]
    ·rw [if_neg (by omega)] at hx
     simp only [↓wR,RA,simprocAttr,TF,ae,h1,hcs,hz,hi2,P0]
     refine eb (fun r st'=>r = .gb []∧st'=bq [some (.row [.vl false 1 (z.origin.map (aq.val false)),.vl false 5 (z.ar.map (ak.val false))] 0 2 26),some (.row [.vl false 1 (z.origin.map (aq.val false)),.vl false 5 (z.ar.map (ak.val false)),.sc (.int .i64 (dh ((fun _ s=>qs z s) i c) 267 e))] 0 2 180),some (.row [.sc (.bool (ij z))] 0 2 4),some (.row [.vl false 1 (z.origin.map (aq.val false)),.vl false 5 (z.ar.map (ak.val false))] 0 2 26),some (.row [.sc (.int .u16 2)] 0 2 28),some (.row [.vl false 1 (c.owner.map (aq.val false)),.sc (.int .u16 c.type.toNat),.sc (.int .u16 c.cls.toNat),.sc (.int .u32 c.ot.toNat),.vl false 4 (c.data.map (bz.val false))] 0 2 40)]) rfl ?_ ?_
     ·refine bt (T:=[en,dx,g6,jz,jy,jx,jb,l9,pn,l5]) ok mixed Tryz.func126 rfl (by kernel_rfl) (by kernel_rfl) (by kernel_rfl) (by kernel_rfl) ?_;unfold Tryz.f126
      simp only [↓wR,RA,simprocAttr,TF,ae,e1]
      rw [br];refine ⟨fun hn2=>?_,fun hn2=>?_⟩
      ·have hb:((fun _ s=>qs z s) i c)=false:=by simpa only [Bool.not_eq_true'] using hn2
       have hv:dh ((fun _ s=>qs z s) i c) 267 0=267:=by unfold dh;rw [if_pos ⟨rfl,hb⟩]
       simp only [↓wR,RA,simprocAttr,TF,ae,hn2,i7,ir,ic]
       try rw [hv]
      ·have hb:((fun _ s=>qs z s) i c)=true:=by simpa only [Bool.not_eq_false'] using hn2
       have hv:dh ((fun _ s=>qs z s) i c) 267 0=0:=by unfold dh;rw [if_neg (fun q=>by rw [hb] at q;cases q.2)]
       simp only [↓wR,RA,simprocAttr,TF,ae,hn2,i7,ir,ic]
       try rw [hv]
     rintro _ _ ⟨rfl,rfl⟩
     simp only [↓wR,RA,simprocAttr,TF,ae,g8];repeat (simp (disch:=omega) only [ah,cb,cd,cg,cf];try simp only [↓wR,RA,simprocAttr,TF,ae,g8])
     exact ⟨(i+1,dh ((fun _ s=>qs z s) i c) 267 e),⟨hlt,hx⟩,by simp;omega,by (first|rfl|trivial|omega|((try (simp (disch:=omega) only [ah]));(try (simp only [FB]));first|done|rfl|omega)),by (first|rfl|trivial|omega|((try (simp (disch:=omega) only [ah]));(try (simp only [FB]));first|done|rfl|omega))⟩
   ·rw [dz (decide_eq_false h)] at hx
    simp only [↓wR,RA,simprocAttr,TF,ae,h,i7,ir,ic]
    rw [hx];rfl
  rintro _ _ ⟨rfl,rfl⟩
  rw [← he0]
  clear he0
  simp only [↓wR,RA,simprocAttr,TF,ae,g8]
  rfl
noncomputable def Cn (x:be × Unit):Option AV:=if cy x.1 then some ((r1 (ay .i64)).E true (fq x.1)) else none
set_option maxRecDepth 2000000 in
theorem Ik (x:be × Unit) (r:AV) (h:Cn x=some r):bc PP 82 ((aC bf a0).E x) r:=by
 by_cases hc:cy x.1
 case neg=>simp only [Cn,if_neg hc] at h;cases h
 simp only [Cn,if_pos hc] at h
 cases h
 exact ba (aj.cons (ai ld) (aj.cons (ai gi) (aj.cons (ai Mk) (aj.cons (ai Qy) (aj.cons (ai Sm) (aj.cons (ai Sy) (aj.cons (ai Om) (aj.cons (ai Uz) (aj.cons (ai Zw) (aj.cons (ai Vu) (aj.nil PP))))))))))) Tryz.func82 (by kernel_rfl) (by kernel_rfl) (by kernel_rfl) (Nat.le_of_ble_eq_true (by kernel_rfl)) (r1 (ay .i64)) true (fq x.1) (ae7 x.1 hc)
noncomputable abbrev ad4:Nat × Bool × (List AV→M AV):=(82,true,cx (aC bf a0) Cn)
def agj (l:List bo):Bool:=l.all fun s=>!decide ((20:Int)<s.data.length)
def Oi (z:be):Bool:=agj z.ar && decide ((z.ar.length:Int)≤40)
theorem aBr (z:be) (hz:cy z):wl PP [] 0 (Tryz.f9.body.getD .skip) (dj PP Tryz.f9.results.toList (fun r st=>(r1 bn).get true st.h r=some (Oi z))) (b9 0 [bf.val false z]) (bq []):=by
 have hl:=hz.len
 unfold Tryz.f9
 simp only [gz]
 simp only [↓wR,RA,simprocAttr,TF,ae]
 refine di [1,3] (fun (i:Nat)=>[.ptr 0 0,.sc (.int .i64 (i))]) (fun _=>[some (.row [.vl false 1 (z.origin.map (aq.val false)),.vl false 5 (z.ar.map (ak.val false))] 0 2 26)]) (fun i=>i≤z.ar.length∧agj z.ar=agj (z.ar.drop i)) (fun i=>z.ar.length - i) 0 ⟨Nat.zero_le _,rfl⟩ (by simp only [↓wR,RA,simprocAttr,TF,ae]<;>rfl) (by simp only [↓wR,RA,simprocAttr,TF,ae]<;>rfl) ?_
 rintro i ⟨hi,hx⟩
 simp only [↓wR,RA,simprocAttr,TF,ae]
 rw [bm];refine ⟨fun h=>?_,fun h=>?_⟩
 ·obtain ⟨c,hc,hd1,hlt⟩:=dv (decide_eq_true h)
  have hx':agj z.ar=(!decide ((20:Int)<c.data.length) && agj (z.ar.drop (i+1))):=by rw [hx,hd1];rfl
  simp only [↓wR,RA,simprocAttr,TF,ae,h,hc];repeat (simp (disch:=omega) only [ah,cb,cd,cg,cf];try simp only [↓wR,RA,simprocAttr,TF,ae,h,hc])
  rw [bm];refine ⟨fun h2=>?_,fun h2=>?_⟩
  ·rw [decide_eq_true h2,Bool.not_true,Bool.false_and] at hx'
   simp only [↓wR,RA,simprocAttr,TF,ae,h2];repeat (simp (disch:=omega) only [ah,cb,cd,cg,cf];try simp only [↓wR,RA,simprocAttr,TF,ae,h2])
   rw [Oi,hx'];rfl
  ·rw [decide_eq_false h2,Bool.not_false,Bool.true_and] at hx'
   simp only [↓wR,RA,simprocAttr,TF,ae,h2];repeat (simp (disch:=omega) only [ah,cb,cd,cg,cf];try simp only [↓wR,RA,simprocAttr,TF,ae,h2])
   exact ⟨i+1,⟨hlt,hx'⟩,by omega,by (first|rfl|trivial|omega|((try (simp (disch:=omega) only [ah]));(try (simp only [FB]));first|done|rfl|omega))⟩
 ·rw [dz (decide_eq_false h)] at hx
  simp only [↓wR,RA,simprocAttr,TF,ae,h]
  rw [Oi,hx];rfl
noncomputable def P6 (x:be × Unit):Option AV:=if cy x.1 then some ((r1 bn).E true (Oi x.1)) else none
set_option maxRecDepth 2000000 in
theorem aug (x:be × Unit) (r:AV) (h:P6 x=some r):bc PP 9 ((aC bf a0).E x) r:=by
 by_cases hc:cy x.1
 case neg=>simp only [P6,if_neg hc] at h;cases h
 simp only [P6,if_pos hc] at h
 cases h
 exact ba (aj.nil PP) Tryz.func9 (by kernel_rfl) (by kernel_rfl) (by kernel_rfl) (Nat.le_of_ble_eq_true (by kernel_rfl)) (r1 bn) true (Oi x.1) (aBr x.1 hc)
noncomputable abbrev aHf:Nat × Bool × (List AV→M AV):=(9,true,cx (aC bf a0) P6)
noncomputable def jl (z:be) (n:Name):Int:=if fq z≠0 then fq z else if dt n≠0 then dt n else if dr n z.origin=false then 2 else 0
theorem axy (z:be) (n:Name) (hz:cy z) (hn:bj n):wl PP [ad4,en,uv] 0 (Tryz.f107.body.getD .skip) (dj PP Tryz.f107.results.toList (fun r st=>(r1 (ay .i64)).get true st.h r=some (jl z n))) (b9 0 [bf.val false z,aw.val false n]) (bq []):=by
 unfold Tryz.f107
 simp only [gz,dm]
 simp only [↓wR,RA,simprocAttr,TF,ae,Cn,hz]
 unfold jl
 rw [br];refine ⟨fun h=>?_,fun h=>?_⟩
 ·have he:fq z≠0:=by simpa using h
  rw [if_pos he]
  simp only [↓wR,RA,simprocAttr,TF,ae,h]
 have he:fq z=0:=by simpa using h
 rw [if_neg (by omega)]
 simp only [↓wR,RA,simprocAttr,TF,ae,h,mz,hn.fit]
 rw [br];refine ⟨fun h2=>?_,fun h2=>?_⟩
 ·have he:dt n≠0:=by simpa using h2
  rw [if_pos he]
  simp only [↓wR,RA,simprocAttr,TF,ae,h2]
 have he2:dt n=0:=by simpa using h2
 rw [if_neg (by omega)]
 simp only [↓wR,RA,simprocAttr,TF,ae,h2,mn,hn,hz.origin]
 rw [br];refine ⟨fun h3=>?_,fun h3=>?_⟩
 ·have h3':dr n z.origin=false:=by simpa only [Bool.not_eq_true'] using h3
  rw [if_pos h3']
  simp only [↓wR,RA,simprocAttr,TF,ae,h3]
 ·have h3':dr n z.origin=true:=by simpa only [Bool.not_eq_false'] using h3
  rw [if_neg (by rw [h3'];decide)]
  simp only [↓wR,RA,simprocAttr,TF,ae,h3]
noncomputable def Jy (x:be × Name × Unit):Option AV:=if cy x.1∧bj x.2.1 then some ((r1 (ay .i64)).E true (jl x.1 x.2.1)) else none
set_option maxRecDepth 2000000 in
theorem ajl (x:be × Name × Unit) (r:AV) (h:Jy x=some r):bc PP 107 ((aC bf (aC aw a0)).E x) r:=by
 by_cases hc:cy x.1∧bj x.2.1
 case neg=>simp only [Jy,if_neg hc] at h;cases h
 simp only [Jy,if_pos hc] at h
 cases h
 exact ba (aj.cons (ai Ik) (aj.cons (ai ld) (aj.cons (ai nj) (aj.nil PP)))) Tryz.func107 (by kernel_rfl) (by kernel_rfl) (by kernel_rfl) (Nat.le_of_ble_eq_true (by kernel_rfl)) (r1 (ay .i64)) true (jl x.1 x.2.1) (axy x.1 x.2.1 hc.1 hc.2)
noncomputable abbrev aCg:Nat × Bool × (List AV→M AV):=(107,true,cx (aC bf (aC aw a0)) Jy)
def ec (z:be):Name→Name
 | []=>[]
 |a::r=>if sg z (a::r)=true then a::r else ec z r
theorem Kk {z:be} {m:Name} (hu:dr m z.origin=true) (hh:sg z m=false):∃ a r,m=a::r∧dr r z.origin=true∧ec z m=ec z r:=by
 have hs:fi m z.origin=false:=by
  unfold sg at hh
  rw [hu,Bool.true_and] at hh
  cases h:fi m z.origin with
  |false=>rfl
  |true=>rw [h] at hh;cases hh
 have hu':g9 z.origin <:+ g9 m:=by simpa [dr] using hu
 have hs':g9 m≠g9 z.origin:=by simpa [fi] using hs
 cases m with
 |nil=>exact (hs' (List.suffix_nil.1 (by simpa only [g9,List.map_nil] using hu')).symm).elim
 |cons a r=>
  refine ⟨a,r,rfl,?_,by rw [ec,if_neg (by rw [hh];decide)]⟩
  have h2:g9 z.origin <:+ fold a::g9 r:=hu'
  rcases List.suffix_cons_iff.1 h2 with h3|h3
  ·exact (hs' h3.symm).elim
  ·simpa [dr] using h3
theorem C7 {z:be} {m:Name} (hh:sg z m=true):ec z m=m:=by
 cases m with
 |nil=>rfl
 |cons a r=>rw [ec,if_pos hh]
theorem aot (z:be) (n:Name) (hz:cy z) (hn:bj n) (hu:dr n z.origin=true):wl PP [aB8,qf] 0 (Tryz.f108.body.getD .skip) (dj PP Tryz.f108.results.toList (fun r st=>(r1 aw).get true st.h r=some (ec z n))) (b9 0 [bf.val false z,aw.val false n]) (bq []):=by
 unfold Tryz.f108
 simp only [gz,dm]
 simp only [↓wR,RA,simprocAttr,TF,ae]
 refine di [1,2] (fun (m:Name)=>[.vl false 1 (m.map (aq.val false)),.ptr 0 0]) (fun _=>[some (.row [.vl false 1 (z.origin.map (aq.val false)),.vl false 5 (z.ar.map (ak.val false))] 0 2 26)]) (fun m=>bj m∧dr m z.origin=true∧ec z n=ec z m) (fun m=>m.length) n ⟨hn,hu,rfl⟩ (by simp only [↓wR,RA,simprocAttr,TF,ae]<;>rfl) (by simp only [↓wR,RA,simprocAttr,TF,ae]<;>rfl) ?_
 rintro m ⟨hm,hmu,hx⟩
 simp only [↓wR,RA,simprocAttr,TF,ae,P8,hz,hm]
 rw [br];refine ⟨fun h=>?_,fun h=>?_⟩
 ·simp only [↓wR,RA,simprocAttr,TF,ae,h,j8,hm]
  rw [hx,C7 h]
 ·obtain ⟨a,r,rfl,hru,hcr⟩:=Kk hmu h
  have hr:bj r:=hm.drop 1
  rw [hcr] at hx
  simp only [↓wR,RA,simprocAttr,TF,ae,h]
  exact ⟨r,⟨hr,hru,hx⟩,by simp,rfl⟩
noncomputable def Dp (x:be × Name × Unit):Option AV:=if (cy x.1∧bj x.2.1)∧dr x.2.1 x.1.origin=true then some ((r1 aw).E true (ec x.1 x.2.1)) else none
set_option maxRecDepth 2000000 in
theorem acs (x:be × Name × Unit) (r:AV) (h:Dp x=some r):bc PP 108 ((aC bf (aC aw a0)).E x) r:=by
 by_cases hc:(cy x.1∧bj x.2.1)∧dr x.2.1 x.1.origin=true
 case neg=>simp only [Dp,if_neg hc] at h;cases h
 simp only [Dp,if_pos hc] at h
 cases h
 exact ba (aj.cons (ai aaz) (aj.cons (ai ky) (aj.nil PP))) Tryz.func108 (by kernel_rfl) (by kernel_rfl) (by kernel_rfl) (Nat.le_of_ble_eq_true (by kernel_rfl)) (r1 aw) true (ec x.1 x.2.1) (aot x.1 x.2.1 hc.1.1 hc.1.2 hc.2)
noncomputable abbrev au8:Nat × Bool × (List AV→M AV):=(108,true,cx (aC bf (aC aw a0)) Dp)
theorem Cq (z:be) (n:Name):∃ k,ec z n=n.drop k:=by
 induction n with
 |nil=>exact ⟨0,rfl⟩
 |cons a r ih=>
  unfold ec
  split
  ·exact ⟨0,rfl⟩
  ·obtain ⟨k,hk⟩:=ih;exact ⟨k+1,by rw [hk];rfl⟩
theorem acn {z:be} {n:Name} (hn:bj n):bj (ec z n):=by
 obtain ⟨k,hk⟩:=Cq z n
 rw [hk];exact hn.drop k
theorem aw7 (n:Name) (hn:bj n):wl PP [] 0 (Tryz.f110.body.getD .skip) (dj PP Tryz.f110.results.toList (fun r st=>(r1 aw).get true st.h r=some (vk::n))) (b9 0 [aw.val false n]) (bq []):=by
 have hl:=hn.lt
 have hlim:(n.length+1) * 16≤140737488355328:=by omega
 unfold Tryz.f110
 simp only [dm]
 simp only [↓wR,RA,simprocAttr,TF,ae,hlim,Nat.add_comm 1 n.length]
 rfl
noncomputable def Jd (x:Name × Unit):Option AV:=if bj x.1 then some ((r1 aw).E true (vk::x.1)) else none
set_option maxRecDepth 2000000 in
theorem ant (x:Name × Unit) (r:AV) (h:Jd x=some r):bc PP 110 ((aC aw a0).E x) r:=by
 by_cases hc:bj x.1
 case neg=>simp only [Jd,if_neg hc] at h;cases h
 simp only [Jd,if_pos hc] at h
 cases h
 exact ba (aj.nil PP) Tryz.func110 (by kernel_rfl) (by kernel_rfl) (by kernel_rfl) (Nat.le_of_ble_eq_true (by kernel_rfl)) (r1 aw) true (vk::x.1) (aw7 x.1 hc)
noncomputable abbrev aFd:Nat × Bool × (List AV→M AV):=(110,true,cx (aC aw a0) Jd)
theorem ac8 (n:Name) (k:Nat):bw (n.drop k)≤bw n:=by
 have:=kb (n.take k) (n.drop k)
 rw [List.take_append_drop] at this
 have h1:=(j7 (n.take k) 0).2
 omega
theorem We {z:be} {n:Name} (h:dt n=0):bj (vk::ec z n):=by
 obtain ⟨k,hk⟩:=Cq z n
 have h1:=ac8 n k
 have h2:=so h
 have h3:=kb [vk] (ec z n)
 have h4:bw [vk]=3:=rfl
 rw [hk] at h3 ⊢
 simp only [List.singleton_append] at h3
 unfold bj
 omega
theorem Gy {z:be} {n:Name} (h:jl z n=0):fq z=0∧dt n=0∧dr n z.origin=true:=by
 unfold jl at h
 split at h
 ·contradiction
 split at h
 ·contradiction
 split at h
 ·cases h
 ·rename_i h1 h2 h3
  exact ⟨by omega,by omega,by simpa using h3⟩
noncomputable def jj (z:be) (n:Name):C1 × Int:=
 if jl z n≠0 then (zt 0 [] [],jl z n)
 else match k8 z n with
  |some c=>(zt 4 c [],0)
  |none=>
   if 0<(kg z n).length then (zt 1 n (ec z n),0)
   else if (ec z n).length=n.length then (zt 2 [] (ec z n),0)
   else if sg z (vk::ec z n)=true then (zt 3 (vk::ec z n) (ec z n),0)
   else (zt 0 [] (ec z n),0)
theorem aAp (z:be) (n:Name) (hz:cy z) (hn:bj n):wl PP [aCg,aw1,au8,zAt,qf,aFd,aB8] 0 (Tryz.f72.body.getD .skip) (dj PP Tryz.f72.results.toList (fun r st=>(r2 sm (ay .i64)).get true st.h r=some (jj z n))) (b9 0 [bf.val false z,aw.val false n]) (bq []):=by
 unfold Tryz.f72
 simp only [gz,dm]
 simp only [↓wR,RA,simprocAttr,TF,ae,Jy,hz,hn]
 unfold jj
 rw [br];refine ⟨fun h=>?_,fun h=>?_⟩
 ·have he:jl z n≠0:=by simpa using h
  rw [if_pos he]
  simp only [↓wR,RA,simprocAttr,TF,ae,h]
 have he:jl z n=0:=by simpa using h
 obtain ⟨a1,a2,a3⟩:=Gy he
 rw [if_neg (by omega)]
 have hcs:=acn (z:=z) hn
 have hst:=We (z:=z) a2
 cases hc:k8 z n with
 |some c=>
  simp only [↓wR,RA,simprocAttr,TF,ae,h,Eo,hz,hn,hc]
 |none=>
  simp only [↓wR,RA,simprocAttr,TF,ae,h,Eo,hz,hn,hc,Option.isSome_none,Dp,a3,aga]
  rw [bm];refine ⟨fun h1=>?_,fun h1=>?_⟩
  ·rw [if_pos (by omega)]
   simp only [↓wR,RA,simprocAttr,TF,ae,h1,j8,hn]
  rw [if_neg (by omega)]
  simp only [↓wR,RA,simprocAttr,TF,ae,h1]
  rw [c9];refine ⟨fun ⟨h2,e2⟩=>?_,fun ⟨h2,e2⟩=>?_⟩
  ·rw [if_pos (by omega)]
   simp only [↓wR,RA,simprocAttr,TF,ae,h2]
  rw [if_neg (by omega)]
  simp only [↓wR,RA,simprocAttr,TF,ae,h2]
  refine ⟨by kernel_rfl,.inl ?_⟩
  simp only [↓wR,RA,simprocAttr,TF,ae,Jd,hcs,P8,hz,hst]
  refine ⟨by kernel_rfl,?_⟩
  rw [br];refine ⟨fun h3=>?_,fun h3=>?_⟩
  ·rw [if_pos h3]
   simp only [↓wR,RA,simprocAttr,TF,ae,h3,Jd,hcs]
  ·rw [if_neg (by rw [h3];decide)]
   simp only [↓wR,RA,simprocAttr,TF,ae,h3]
noncomputable def N3 (x:be × Name × Unit):Option AV:=if cy x.1∧bj x.2.1 then some ((r2 sm (ay .i64)).E true (jj x.1 x.2.1)) else none
set_option maxRecDepth 2000000 in
theorem aqe (x:be × Name × Unit) (r:AV) (h:N3 x=some r):bc PP 72 ((aC bf (aC aw a0)).E x) r:=by
 by_cases hc:cy x.1∧bj x.2.1
 case neg=>simp only [N3,if_neg hc] at h;cases h
 simp only [N3,if_pos hc] at h
 cases h
 exact ba (aj.cons (ai ajl) (aj.cons (ai Ot) (aj.cons (ai acs) (aj.cons (ai aww) (aj.cons (ai ky) (aj.cons (ai ant) (aj.cons (ai aaz) (aj.nil PP)))))))) Tryz.func72 (by kernel_rfl) (by kernel_rfl) (by kernel_rfl) (Nat.le_of_ble_eq_true (by kernel_rfl)) (r2 sm (ay .i64)) true (jj x.1 x.2.1) (aAp x.1 x.2.1 hc.1 hc.2)
noncomputable abbrev aEt:Nat × Bool × (List AV→M AV):=(72,true,cx (aC bf (aC aw a0)) N3)
end Go.Proofs.YtajammoepjpiiaaGreat
end
section
namespace Go.Proofs.YtajammoepjpiiaaGreat
open Go.Vm
theorem x5 {err:Int} (he:err≠0) (p:Nat→bo→Bool):∀ (l:List bo) (i:Nat) (e:Int),gm err p i l e=0→e=0∧∀ k s,l[k]? = some s→p (i+k) s=true:=by
 intro l
 induction l with
 |nil=>intro i e h;exact ⟨h,fun k s hs=>by simp at hs⟩
 |cons a l ih=>
  intro i e h
  rw [gm] at h
  split at h
  ·contradiction
  ·rename_i h0
   have h0:e=0:=by omega
   obtain ⟨h1,h2⟩:=ih (i+1) _ h
   refine ⟨h0,fun k s hs=>?_⟩
   cases k with
   |zero=>
    simp at hs
    subst hs
    cases hp:p i a with
    |true=>simp [hp]
    |false=>rw [dh,if_pos ⟨h0,hp⟩] at h1;exact (he h1).elim
   |succ k=>
    have:=h2 k s (by simpa using hs)
    rwa [show i+1+k=i+(k+1) from by omega] at this
theorem Ux {b:Bool} {err e:Int} (he:err≠0) (h:dh b err e=0):e=0∧b=true:=by
 unfold dh at h
 split at h
 ·exact (he h).elim
 ·rename_i hn
  refine ⟨h,?_⟩
  cases b with
  |true=>rfl
  |false=>exact (hn ⟨h,rfl⟩).elim
structure aym (z:be):Prop where
 first:vu z=0
 aH6:∀ k s,z.ar[k]? = some s→ln z k s=true
 cls:∀ s ∈ z.ar,ow s=true
 inside:∀ s ∈ z.ar,dr s.owner z.origin=true
 aHh:(gy z).1=1∧(gy z).2=1
 aH7:ij z=true
 alone:∀ k s,z.ar[k]? = some s→jn z k s=true
 star:∀ s ∈ z.ar,l0 s=true
 occ:∀ s ∈ z.ar,qs z s=true
theorem Qk {z:be} (h:fq z=0):aym z:=by
 unfold fq at h
 split at h
 ·contradiction
 rename_i h0
 obtain ⟨h7,p8⟩:=x5 (by decide) _ _ _ _ h
 obtain ⟨h6,p7⟩:=x5 (by decide) _ _ _ _ h7
 obtain ⟨h5,p6⟩:=x5 (by decide) _ _ _ _ h6
 obtain ⟨h4,p5⟩:=Ux (by decide) h5
 obtain ⟨h3,p4⟩:=Ux (by decide) h4
 obtain ⟨h2,p3⟩:=x5 (by decide) _ _ _ _ h3
 obtain ⟨h1,p2⟩:=x5 (by decide) _ _ _ _ h2
 obtain ⟨_,p1⟩:=x5 (by decide) _ _ _ _ h1
 have mem:∀ (p:bo→Bool),(∀ k s,z.ar[k]? = some s→p s=true)→∀ s ∈ z.ar,p s=true:=fun p hp s hs=>by
  obtain ⟨k,hk,rfl⟩:=List.getElem_of_mem hs
  exact hp k _ (List.getElem?_eq_getElem hk)
 simp only [Bool.and_eq_true,decide_eq_true_eq] at p4
 exact ⟨by omega,fun k s hs=>by simpa using p1 k s hs,mem _ p2,mem _ p3,p4,p5,fun k s hs=>by simpa using p6 k s hs,mem _ p7,mem _ p8⟩
theorem Dn {a b:Name}:fi a b=true↔g9 a=g9 b:=by simp [fi]
theorem u2 {a b:Name}:dr a b=true↔g9 b <:+ g9 a:=by simp [dr]
theorem ap6 {a b:Name} (h:fi a b=true):dr a b=true:=u2.2 (by rw [Dn.1 h];exact List.suffix_refl _)
theorem akf {a b c:Name} (h1:dr a b=true) (h2:dr b c=true):dr a c=true:=u2.2 ((u2.1 h2).trans (u2.1 h1))
theorem aj6 {a a' b:Name} (h:fi a a'=true):dr a b=dr a' b:=by simp only [dr,Dn.1 h]
theorem aba (n:Name):(g9 n).length=n.length:=List.length_map _
theorem axh {a b:Name} (h:fi a b=true):a.length=b.length:=by
 have:=congrArg List.length (Dn.1 h)
 rwa [aba,aba] at this
theorem aa7 (a:Name):fi a a=true:=Dn.2 rfl
theorem U1 (a:Name):dr a a=true:=u2.2 (List.suffix_refl _)
theorem apy (a:ByteArray) (n:Name):dr (a::n) n=true:=u2.2 (List.suffix_cons _ _)
theorem ac5 {z:be}:∀ {n:Name},dr n z.origin=true→sg z (ec z n)=true∧dr n (ec z n)=true:=by
 intro n
 induction n with
 |nil=>
  intro hu
  cases hh:sg z [] with
  |true=>exact ⟨hh,U1 _⟩
  |false=>obtain ⟨a,r,h,_⟩:=Kk hu hh;cases h
 |cons a n ih=>
  intro hu
  cases hh:sg z (a::n) with
  |true=>rw [C7 hh];exact ⟨hh,U1 _⟩
  |false=>
   obtain ⟨a',r,h,hr,hc⟩:=Kk hu hh
   cases h
   rw [hc]
   obtain ⟨h1,h2⟩:=ih hr
   exact ⟨h1,akf (apy a n) h2⟩
theorem aqo {z:be} {n:Name} (h:(ec z n).length=n.length):ec z n=n:=by
 obtain ⟨k,hk⟩:=Cq z n
 rw [hk] at h ⊢
 rw [List.length_drop] at h
 cases n with
 |nil=>exact List.drop_nil
 |cons a n=>
  have:k=0:=by simp at h;omega
  rw [this];rfl
theorem ag5 {z:be} {n:Name} (h:(ec z n).length≠n.length):sg z n=false:=by
 cases hh:sg z n with
 |false=>rfl
 |true=>rw [C7 hh] at h;exact (h rfl).elim
theorem aDx {z:be} {n:Name} (hg:aym z) (hp : 0<(kg z n).length):sg z n=true:=by
 obtain ⟨s,hs⟩:=List.exists_mem_of_length_pos hp
 obtain ⟨hs1,hs2⟩:=List.mem_filter.1 hs
 have hi:=hg.inside s hs1
 unfold sg
 rw [← aj6 hs2,hi,Bool.true_and,Bool.or_eq_true]
 exact .inr (List.any_eq_true.2 ⟨s,hs1,ap6 hs2⟩)
inductive aD2 (z:be) (n:Name):Prop
 |beyond (c:Name) (hc:k8 z n=some c) (h:jj z n=(zt 4 c [],0))
 |exact (hc:k8 z n=none) (hp : 0<(kg z n).length) (hh:sg z n=true) (h:jj z n=(zt 1 n n,0))
 |empty (hc:k8 z n=none) (hp:kg z n=[]) (hh:sg z n=true) (h:jj z n=(zt 2 [] n,0))
 |aHe (hc:k8 z n=none) (hp:kg z n=[]) (hh:sg z n=false) (hs:sg z (vk::ec z n)=true) (h:jj z n=(zt 3 (vk::ec z n) (ec z n),0))
 |none (hc:k8 z n=none) (hp:kg z n=[]) (hh:sg z n=false) (hs:sg z (vk::ec z n)=false) (h:jj z n=(zt 0 [] (ec z n),0))
theorem X7 {z:be} {n:Name} (h:jl z n=0):aD2 z n:=by
 obtain ⟨h1,h2,h3⟩:=Gy h
 have hg:=Qk h1
 have hf:jj z n=match k8 z n with
  |some c=>(zt 4 c [],0)
  |none=>
   if 0<(kg z n).length then (zt 1 n (ec z n),0)
   else if (ec z n).length=n.length then (zt 2 [] (ec z n),0)
   else if sg z (vk::ec z n)=true then (zt 3 (vk::ec z n) (ec z n),0)
   else (zt 0 [] (ec z n),0):=by unfold jj;rw [if_neg (by omega)]<;>rfl
 cases hc:k8 z n with
 |some c=>rw [hc] at hf;exact .beyond c hc hf
 |none=>
  rw [hc] at hf
  simp only at hf
  split at hf
  ·rename_i hp
   have hh:=aDx hg hp
   rw [C7 hh] at hf
   exact .exact hc hp hh hf
  rename_i hp
  have hp:kg z n=[]:=List.eq_nil_of_length_eq_zero (by omega)
  split at hf
  ·rename_i hl
   have he:=aqo hl
   have hh:=(ac5 h3).1
   rw [he] at hh hf
   exact .empty hc hp hh hf
  rename_i hl
  have hh:=ag5 hl
  split at hf
  ·rename_i hs;exact .aHe hc hp hh hs hf
  ·rename_i hs;exact .none hc hp hh (by simpa using hs) hf
theorem ai1 {z:be} {n:Name} (h:jl z n≠0):jj z n=(zt 0 [] [],jl z n):=by unfold jj;rw [if_pos h]
end Go.Proofs.YtajammoepjpiiaaGreat
end
section
namespace Go.Proofs.YtajammoepjpiiaaGreat
open Go.Vm
set_option maxRecDepth 2000000
def Dq (l:List bo):Prop:=fp lh l≤16777216
instance (l:List bo):Decidable (Dq l):=inferInstanceAs (Decidable (_≤_))
theorem Dq.mem {l:List bo} (h:Dq l):∀ s ∈ l,dq s:=fun s hs=>by
 have h1:lh s<fp lh l:=rp hs
 unfold Dq at h;unfold dq;omega
theorem Dq.len {l:List bo} (h:Dq l):l.length≤16777216:=Nat.le_trans (ru lh l) h
theorem cy.ar {z:be} (h:cy z):Dq z.ar:=by unfold cy xn at h;unfold Dq;omega
def yk (l:List bo):Prop:=l.length≤281474976710656∧∀ s ∈ l,dq s
instance (l:List bo):Decidable (yk l):=inferInstanceAs (Decidable (_∧_))
theorem cy.mid {z:be} (h:cy z):yk z.ar:=⟨Nat.le_trans h.ar.len (by decide),h.ar.mem⟩
def vm (n:Name) (t:UInt16) (s:bo):Bool:=decide ((s.type.toNat:Int)=t.toNat) && (decide ((s.cls.toNat:Int)=1) && fi s.owner n)
def jh (l:List bo) (n:Name) (t:UInt16):Option bo:=l.find? (vm n t)
def m5:bo:=mkS [] 0 0 0 []
theorem Yb {l:List bo} {p:bo→Bool} {i:Nat} {c:bo} (h:l.drop i=c::l.drop (i+1)):(l.drop i).find? p=if p c=true then some c else (l.drop (i+1)).find? p:=by
 rw [h,List.find?_cons];split<;>simp_all
theorem arp (l:List bo) (n:Name) (t:UInt16) (hl:yk l) (hn:bj n):wl PP [dx,E4] 0 (Tryz.f11.body.getD .skip) (dj PP Tryz.f11.results.toList (fun r st=>(r2 ak bn).get true st.h r=some ((jh l n t).getD m5,(jh l n t).isSome))) (b9 0 [(ca ak).val false l,aw.val false n,da.val false t]) (bq []):=by
 have hlen:=hl.1
 unfold Tryz.f11
 simp only [dm]
 simp only [↓wR,RA,simprocAttr,TF,ae]
 refine di [1,2,6,10,11,12] (fun (i:Nat)=>[.vl false 1 (n.map (aq.val false)),.sc (.int .u16 t.toNat),.ptr 0 0,.vl false 5 (l.map (ak.val false)),.sc (.int .i64 (l.length)),.sc (.int .i64 (i))]) (fun _=>[some (.row [.sc (.slice none 0 0),.sc (.int .u16 0),.sc (.int .u16 0),.sc (.int .u32 0),.sc (.slice none 0 0)] 0 2 40)]) (fun i=>i≤l.length∧jh l n t=(l.drop i).find? (vm n t)) (fun i=>l.length - i) 0 ⟨Nat.zero_le _,rfl⟩ (by simp only [↓wR,RA,simprocAttr,TF,ae]<;>rfl) (by simp only [↓wR,RA,simprocAttr,TF,ae]<;>rfl) ?_
 rintro i ⟨hi,hx⟩
 simp only [↓wR,RA,simprocAttr,TF,ae]
 rw [bm];refine ⟨fun h=>?_,fun h=>?_⟩
 ·obtain ⟨c,hc,hd1,hlt⟩:=dv (decide_eq_true h)
  rw [Yb hd1] at hx
  have hcs:=hl.2 c (List.mem_of_getElem? hc)
  simp only [↓wR,RA,simprocAttr,TF,ae,h,hc]
  rw [c9];refine ⟨fun ⟨h1,e1⟩=>?_,fun ⟨h1,e1⟩=>?_⟩
  ·simp only [↓wR,RA,simprocAttr,TF,ae,h1]
   rw [c9];refine ⟨fun ⟨h2,e2⟩=>?_,fun ⟨h2,e2⟩=>?_⟩
   ·simp only [↓wR,RA,simprocAttr,TF,ae,h2,jc,hcs.owner,hn]
    rw [br];refine ⟨fun h3=>?_,fun h3=>?_⟩
    ·have hp:vm n t c=true:=by simp [vm,e1,e2,h3]
     rw [if_pos hp] at hx
     simp only [↓wR,RA,simprocAttr,TF,ae,h3,te,hcs,hx];repeat (simp (disch:=omega) only [ah,cb,cd,cg,cf];try simp only [↓wR,RA,simprocAttr,TF,ae,h3,te,hcs,hx])
    ·have hp:vm n t c=false:=by simp [vm,h3]
     rw [hp,if_neg (by decide)] at hx
     simp only [↓wR,RA,simprocAttr,TF,ae,h3];repeat (simp (disch:=omega) only [ah,cb,cd,cg,cf];try simp only [↓wR,RA,simprocAttr,TF,ae,h3])
     exact ⟨i+1,⟨hlt,hx⟩,by omega,by (first|rfl|trivial|omega|((try (simp (disch:=omega) only [ah]));(try (simp only [FB]));first|done|rfl|omega))⟩
   ·have hp:vm n t c=false:=by simp [vm,e2]
    rw [hp,if_neg (by decide)] at hx
    simp only [↓wR,RA,simprocAttr,TF,ae,h2];repeat (simp (disch:=omega) only [ah,cb,cd,cg,cf];try simp only [↓wR,RA,simprocAttr,TF,ae,h2])
    exact ⟨i+1,⟨hlt,hx⟩,by omega,by (first|rfl|trivial|omega|((try (simp (disch:=omega) only [ah]));(try (simp only [FB]));first|done|rfl|omega))⟩
  ·have hp:vm n t c=false:=by simp [vm,e1]
   rw [hp,if_neg (by decide)] at hx
   simp only [↓wR,RA,simprocAttr,TF,ae,h1];repeat (simp (disch:=omega) only [ah,cb,cd,cg,cf];try simp only [↓wR,RA,simprocAttr,TF,ae,h1])
   exact ⟨i+1,⟨hlt,hx⟩,by omega,by (first|rfl|trivial|omega|((try (simp (disch:=omega) only [ah]));(try (simp only [FB]));first|done|rfl|omega))⟩
 ·rw [dz (decide_eq_false h),List.find?_nil] at hx
  simp only [↓wR,RA,simprocAttr,TF,ae,h,hx]
  rfl
noncomputable def uh (x:List bo × Name × UInt16 × Unit):Option AV:=if yk x.1∧bj x.2.1 then some ((r2 ak bn).E true (((jh x.1 x.2.1 x.2.2.1).getD m5,(jh x.1 x.2.1 x.2.2.1).isSome))) else none
set_option maxRecDepth 2000000 in
theorem tl (x:List bo × Name × UInt16 × Unit) (r:AV) (h:uh x=some r):bc PP 11 ((aC (ca ak) (aC aw (aC da a0))).E x) r:=by
 by_cases hc:yk x.1∧bj x.2.1
 case neg=>simp only [uh,if_neg hc] at h;cases h
 simp only [uh,if_pos hc] at h
 cases h
 exact ba (aj.cons (ai gi) (aj.cons (ai Ax) (aj.nil PP))) Tryz.func11 (by kernel_rfl) (by kernel_rfl) (by kernel_rfl) (Nat.le_of_ble_eq_true (by kernel_rfl)) (r2 ak bn) true (((jh x.1 x.2.1 x.2.2.1).getD m5,(jh x.1 x.2.1 x.2.2.1).isSome)) (arp x.1 x.2.1 x.2.2.1 hc.1 hc.2)
noncomputable abbrev Bi:Nat × Bool × (List AV→M AV):=(11,true,cx (aC (ca ak) (aC aw (aC da a0))) uh)
theorem ap4 (fr h):da.fw fr h (.sc (.int .u16 1))=some 1:=xk fr h 1
theorem ayy (fr h):da.fw fr h (.sc (.int .u16 2))=some 2:=xk fr h 2
theorem ayx (fr h):da.fw fr h (.sc (.int .u16 5))=some 5:=xk fr h 5
theorem ax6 (fr h):da.fw fr h (.sc (.int .u16 6))=some 6:=xk fr h 6
theorem au0 (fr h):da.fw fr h (.sc (.int .u16 28))=some 28:=xk fr h 28
theorem Oe:type_of% @ap4∧type_of% @ayy∧type_of% @ayx∧type_of% @ax6∧type_of% @au0:=⟨@ap4,@ayy,@ayx,@ax6,@au0⟩
theorem Ny (fr h k st et) (s:bo):mf ak fr h 0 1 (.row [.vl true 1 (s.owner.map (aq.val false)),.sc (.int .u16 s.type.toNat),.sc (.int .u16 s.cls.toNat),.sc (.int .u32 s.ot.toNat),.vl true 4 (s.data.map (bz.val true))] k st et)=some [s]:=Av ak fr h true [s] k st et 1 rfl rfl
theorem jt.Pe {bd:Nat} {vs vs':List AV} {os os':List (Option bh)} (hp:bd≤1000) (hV:AV.dk.go (fun o=>idx (pq bd vs os) o 0) vs=vs') (hO:iy (bq os).h (fun o=>idx (pq bd vs os) o 0) (pq bd vs os)=os'):jt bd vs os vs' os':=by
 subst hV hO;exact jt.canon hp
noncomputable def qk (z:be) (n:Name) (t:UInt16):C1 × Int:=
 if (jj z n).2=0∧((t.toNat:Int)=0∨(t.toNat:Int)=41) then (zt 0 [] [],6) else jj z n
theorem aun (z:be) (n:Name) (t:UInt16) (hz:cy z) (hn:bj n):wl PP [aEt] 0 (Tryz.f35.body.getD .skip) (dj PP Tryz.f35.results.toList (fun r st=>(r2 sm (ay .i64)).get true st.h r=some (qk z n t))) (b9 0 [bf.val false z,aw.val false n,da.val false t]) (bq []):=by
 unfold Tryz.f35
 simp only [gz,dm]
 unfold qk
 rcases hf:jj z n with ⟨⟨k,nd,cl⟩,e⟩
 simp only [↓wR,RA,simprocAttr,TF,ae,N3,hz,hn,hf]
 rw [c9];refine ⟨fun ⟨h1,e1⟩=>?_,fun ⟨h1,e1⟩=>?_⟩
 ·simp only [↓wR,RA,simprocAttr,TF,ae,h1]
  rw [c9];refine ⟨fun ⟨h2,e2⟩=>?_,fun ⟨h2,e2⟩=>?_⟩
  ·rw [if_pos ⟨e1,.inl e2⟩]
   simp only [↓wR,RA,simprocAttr,TF,ae,h2]
  ·simp only [↓wR,RA,simprocAttr,TF,ae,h2]
   rw [c9];refine ⟨fun ⟨h3,e3⟩=>?_,fun ⟨h3,e3⟩=>?_⟩
   ·rw [if_pos ⟨e1,.inr e3⟩]
    simp only [↓wR,RA,simprocAttr,TF,ae,h3]
   ·rw [if_neg (fun q=>q.2.elim e2 e3)]
    simp only [↓wR,RA,simprocAttr,TF,ae,h3]
    rfl
 ·rw [if_neg (fun q=>e1 q.1)]
  simp only [↓wR,RA,simprocAttr,TF,ae,h1]
  rfl
noncomputable def E8 (x:be × Name × UInt16 × Unit):Option AV:=if cy x.1∧bj x.2.1 then some ((r2 sm (ay .i64)).E true (qk x.1 x.2.1 x.2.2.1)) else none
set_option maxRecDepth 2000000 in
theorem ajk (x:be × Name × UInt16 × Unit) (r:AV) (h:E8 x=some r):bc PP 35 ((aC bf (aC aw (aC da a0))).E x) r:=by
 by_cases hc:cy x.1∧bj x.2.1
 case neg=>simp only [E8,if_neg hc] at h;cases h
 simp only [E8,if_pos hc] at h
 cases h
 exact ba (aj.cons (ai aqe) (aj.nil PP)) Tryz.func35 (by kernel_rfl) (by kernel_rfl) (by kernel_rfl) (Nat.le_of_ble_eq_true (by kernel_rfl)) (r2 sm (ay .i64)) true (qk x.1 x.2.1 x.2.2.1) (aun x.1 x.2.1 x.2.2.1 hc.1 hc.2)
noncomputable abbrev aD8:Nat × Bool × (List AV→M AV):=(35,true,cx (aC bf (aC aw (aC da a0))) E8)
theorem Ix {s:bo} (h:qj s=0):∃ d,s.data[0]? = some d∧gj s.type d=0:=by
 unfold qj at h
 split at h
 ·contradiction
 split at h
 ·cases h
 rename_i _ q
 split at h
 ·cases h
 cases hd:s.data with
 |nil=>exact (q (by rw [hd];rfl)).elim
 |cons d r=>
  rw [hd,th] at h
  split at h
  ·contradiction
  ·rename_i q;exact ⟨d,rfl,by omega⟩
theorem Um {s:bo} (h:qj s=0):∀ d ∈ s.data,gj s.type d=0:=by
 have key:∀ (l pre:List c0),th s.type pre l=0→∀ d ∈ l,gj s.type d=0:=by
  intro l
  induction l with
  |nil=>intro pre _ d hd;cases hd
  |cons a l ih=>
   intro pre h d hd
   rw [th] at h
   split at h
   ·contradiction
   split at h
   ·cases h
   rcases List.mem_cons.1 hd with rfl|hd
   ·omega
   ·exact ih _ h d hd
 unfold qj at h
 split at h
 ·contradiction
 split at h
 ·cases h
 split at h
 ·cases h
 exact key _ _ h
theorem El {t:UInt16} {d:c0} (h:gj t d=0):(d.names.length:Int)=(jm t).names∧(d.nums.length:Int)=(jm t).nums:=by
 have hf:Ay (jm t) t d=true:=by
  unfold gj at h
  split at h
  ·cases h
  split at h
  ·cases h
  ·rename_i q;simpa using q
 unfold Ay at hf
 split at hf
 ·cases hf
 ·rename_i q
  exact ⟨Decidable.byContradiction fun e=>q (.inl e),Decidable.byContradiction fun e=>q (.inr (.inl e))⟩
theorem avv {s:bo} (h:qj s=0) (ht:(s.type.toNat:Int)=5):∃ d n,s.data[0]? = some d∧d.names[0]? = some n:=by
 obtain ⟨d,hd,he⟩:=Ix h
 have h1:=(El he).1
 have h2:(jm s.type).names=1:=by
  unfold jm;rw [ht];rfl
 rw [h2] at h1
 have : 0<d.names.length:=by omega
 exact ⟨d,d.names[0],hd,List.getElem?_eq_getElem this⟩
theorem aEk {s:bo} (h:qj s=0) (ht:(s.type.toNat:Int)=6):∃ d k,s.data[0]? = some d∧d.nums[4]? = some k:=by
 obtain ⟨d,hd,he⟩:=Ix h
 have h1:=(El he).2
 have h2:(jm s.type).nums=5:=by
  unfold jm;rw [ht];rfl
 rw [h2] at h1
 have : 4<d.nums.length:=by omega
 exact ⟨d,d.nums[4],hd,List.getElem?_eq_getElem this⟩
theorem Di {z:be} (h:fq z=0):∀ s ∈ z.ar,qj s=0:=by
 have hf:=(Qk h).first
 unfold vu at hf
 split at hf
 ·contradiction
 have key:∀ (l:List bo) (e:Int),C5 l e=0→e=0∧∀ s ∈ l,qj s=0:=by
  intro l
  induction l with
  |nil=>intro e h;exact ⟨h,fun s hs=>by cases hs⟩
  |cons a l ih=>
   intro e h
   rw [C5] at h
   obtain ⟨h1,h2⟩:=ih _ h
   split at h1
   ·rename_i e0
    exact ⟨e0,fun s hs=>(List.mem_cons.1 hs).elim (fun q=>q ▸ h1) (h2 s)⟩
   ·rename_i e0;exact (e0 h1).elim
 exact (key _ _ hf).2
theorem x6 {l:List bo} {n:Name} {t:UInt16} {s:bo} (h:jh l n t=some s):s ∈ l∧(s.type.toNat:Int)=t.toNat∧(s.cls.toNat:Int)=1∧fi s.owner n=true:=by
 have h1:=List.mem_of_find?_eq_some h
 have h2:=List.find?_some h
 simp only [vm,Bool.and_eq_true,decide_eq_true_eq] at h2
 exact ⟨h1,h2.1,h2.2.1,h2.2.2⟩
def zl (n:Name) (s:bo):bo:=mkS n s.type s.cls s.ot s.data
theorem asu {xs:List bo} {i:Nat} {c:bo} (n:Name) (k:Nat) (et:TypeId) (id:Nat) (hc:xs[i]? = some c) :
 zc id (i * 5) 1 [aw.val true n] (.row (cellsOf ak true xs) 0 k et)=(jd id (.row (cellsOf ak true (xs.take i++zl n c::xs.drop (i+1))) 0 k et)).bind fun _=>.pure (.sc undef):=by
 obtain ⟨hi,rfl⟩:=List.getElem?_eq_some_iff.1 hc
 have h0:xs=xs.take i++xs[i]::xs.drop (i+1):=by rw [← List.drop_eq_getElem_cons hi,List.take_append_drop]
 have hl:(cellsOf ak true xs).length=xs.length * 5:=wq ak true xs
 have h1:(cellsOf ak true xs).take (i * 5)=cellsOf ak true (xs.take i):=agr ak true xs i
 have h2:(cellsOf ak true xs).drop (i * 5)=cellsOf ak true (xs.drop i):=ah2 ak true xs i
 have h3:(cellsOf ak true xs).drop (i * 5+1)=(ak.cells true xs[i]).drop 1++cellsOf ak true (xs.drop (i+1)):=by
  rw [← List.drop_drop,h2,List.drop_eq_getElem_cons hi,F7];rfl
 have hlt:i * 5+1≤xs.length * 5:=by omega
 have h4:(cellsOf ak true xs).take (i * 5)++[aw.val true n]++(cellsOf ak true xs).drop (i * 5+1)=cellsOf ak true (xs.take i++zl n xs[i]::xs.drop (i+1)):=by
  rw [h1,h3,wk,F7,List.append_assoc];rfl
 have hone:[aw.val true n].all AV.one=true:=rfl
 unfold zc
 simp only [hl,Nat.ble_eq_true_of_le hlt,h4,hone]
 rfl
end Go.Proofs.YtajammoepjpiiaaGreat
end
