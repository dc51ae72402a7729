/- Proved: where the arguments are together of bulk at most 1048576, the law SetMakes returns true (which sets records make), and what it was given reads afterwards as it did before. No other conditions. -/
import Derived.WalkKit
import Derived.CallsIn
import Derived.RangeFuncIn
import Derived.RangeFuncLeaves
import Derived.Orders
import Derived.OrdersIn
import Derived.Scope
import Derived.RangeFuncOwn
import Derived.Stop.SameAnswer
import Derived.Laws.Externs
import Derived.Lib.Bytealg
import Derived.ProofKit
import Derived.OpenShut
import Derived.ReadAgain
import Derived.Deep.Slices
import Derived.ChangeSame
import Derived.Test.YtgencolcibpcaaaProg
import Derived.KernelRfl
import Derived.Test.YtgencolcibpcaaaRows
import Derived.Maps.RangeRun
import Derived.JoinedCond
import Derived.Test.YtgencolcibpcaaaM4
set_option linter.unusedSimpArgs false
set_option linter.unusedVariables false
set_option linter.unusedSectionVars false
section
namespace Go.Proofs.Ytgencolcibpcaaa
open Go.Vm
set_option maxRecDepth 2000000
noncomputable def acd:Code:=match Try.f7.body.getD .skip with
 |.seq a (.seq _ (.seq (.seq _ (.block _ (.loop _))) _))=>a
 |_=>.skip
noncomputable def adv:Code:=match Try.f7.body.getD .skip with
 |.seq _ (.seq a (.seq (.seq _ (.block _ (.loop _))) _))=>a
 |_=>.skip
noncomputable def abt:Code:=match Try.f7.body.getD .skip with
 |.seq _ (.seq _ (.seq (.seq a (.block _ (.loop _))) _))=>a
 |_=>.skip
noncomputable def abj:Code:=match Try.f7.body.getD .skip with
 |.seq _ (.seq _ (.seq (.seq _ (.block _ (.loop _))) a))=>a
 |_=>.skip
theorem ais:Try.f7.body.getD .skip = .seq acd (.seq adv (.seq (.seq abt (.block 0 (.loop ku))) abj)):=by kernel_rfl
theorem alm (q:List c6):wl PP [n7,ox,jx,Gb] 0 acd (Au (wl PP [n7,ox,jx,Gb] 0 adv (Au (wl PP [n7,ox,jx,Gb] 0 abt (Au (fun L st=>ke 0 (Go.Vm.i9 0 [0,4,5] L st) (fm 0 [0,4,5] L st) [.vl false 8 ((q).map (be.val false)),.sl 0 0 (0) 5,.sc (.int .i64 (0))] [some (.row ([]) 0 0 42)]))))))
 (de 0 [(bc be).val false q]) (aw []):=by
 unfold acd adv abt Try.f7
 simp only [↓wR,RA,simprocAttr,TF,ae,Au]
 (refine ke.lax [] (by first|exact Nat.le_of_ble_eq_true rfl|(simp [bt];omega)) ?_ ?_<;>repeat' first|exact fh.nil|exact cy.nil|exact gw.same _|exact gw.nil _ _ _|exact gw.pr _ _|exact cy.refl _ _|apply fh.cons|apply cy.ghost|apply cy.same|apply cy.row)
theorem ahx (L:List bp) (m:Nat) (S:SL) (hS:lk S 4 = .sl 0 0 m 5) (hk:m=L.length):wl PP [n7,ox,jx,Gb] 0 abj (dp PP Try.f7.results.toList (fun rr st=>(r2 (bc ca) (b9 .i64)).get true st.h rr=some ((L,0)))) S (aw [some (.row (cellsOf ca true L) 0 0 42)]):=by
 have hdec:∀ fr h kk st et,um fr st 5 ca.kd et=true→je ca fr h 0 L.length (.row (cellsOf ca true L) kk st et)=some L:=fun fr h kk st et hro=>j9 ca fr h true _ kk st et _ rfl rfl hro
 rw [hk] at hS
 unfold abj Try.f7
 simp only [↓wR,RA,simprocAttr,TF,ae,hS,hdec]
theorem ae1 {B:da} (hnf:B.fq) (hp:B.aj=0) (hO:∀ b,¬ B.O b) (hn0:B.n0≤B.w.heap.size) {q:List c6} (hq:mn q) {g:Gh} {a:Act} {w:World} (hh:du B Try.f7.ntmps (de 0 [(bc be).val false q]) (aw []) g a w) :
 (Try.f7.body.getD .skip).wpIn (fk none) 0 PP (Fin B Try.f7.ntmps (dp PP Try.f7.results.toList (fun rr st=>(r2 (bc ca) (b9 .i64)).get true st.h rr=some (c9 q [])))) a w:=by
 rw [ais]
 refine wpIn_seq (wpIn_mono (piece qe (by kernel_rfl) hnf (by omega) hn0 (by kernel_rfl) (by rw [hp];exact alm q) hh) ?_)
 rintro ex a w ⟨e,L',st',g,rfl,hQ,hh,_⟩
 cases e with
 |ret=>exact hQ.elim
 |exit id=>exact hQ.elim
 |normal=>
 refine wpIn_seq (wpIn_mono (piece qe (by kernel_rfl) hnf (by omega) hn0 (by kernel_rfl) (by rw [hp];exact hQ) hh) ?_)
 rintro ex a w ⟨e,L',st',g,rfl,hQ,hh,_⟩
 cases e with
 |ret=>exact hQ.elim
 |exit id=>exact hQ.elim
 |normal=>
 refine wpIn_seq (wpIn_seq (wpIn_mono (piece qe (by kernel_rfl) hnf (by omega) hn0 (by kernel_rfl) (by rw [hp];exact hQ) hh) ?_))
 rintro ex a w ⟨e,L',st',g,rfl,hQ,hh,_⟩
 cases e with
 |ret=>exact hQ.elim
 |exit id=>exact hQ.elim
 |normal=>
 refine wpIn_block ?_
 have hW:ke 0 (Go.Vm.i9 0 [0,4,5] L' st') (fm 0 [0,4,5] L' st') [.vl false 8 ((q).map (be.val false)),.sl 0 0 (0) 5,.sc (.int .i64 (0))] [some (.row ([]) 0 0 42)]:=hQ
 obtain ⟨V,O,g1,⟨rfl,rfl⟩,k1,k2,k3,_⟩:=Dn (X:=fun vs os=>vs=[.vl false 8 ((q).map (be.val false)),.sl 0 0 (0) 5,.sc (.int .i64 (0))]∧os=[some (.row ([]) 0 0 42)]) hnf (by omega) [0,4,5] (by rw [hp];exact ⟨_,_,hW,rfl,rfl⟩) hh.cur hh.sl
 have h0:Iq B q 0 (c9 q []) a w:=by
  refine ⟨[],[],[],g1,rfl,Nat.le_refl _,fun s hs=>(by cases hs),⟨⟨k1,k2,k3 _ _ _ (uj (by omega) [0,4,5] hh.rn)⟩,rfl,rfl,fun j k b _ h1=>(by simp at h1),fun j s v b h1=>(by simp at h1)⟩⟩
 refine Mk (fun (p:Nat) a w=>p≤q.length∧Iq B q p (c9 q []) a w) (fun p=>q.length - p) ?_ 0 a w ⟨Nat.zero_le _,h0⟩
 rintro p a w ⟨hpl,hI⟩
 by_cases hlt:p<q.length
 ·refine wpIn_mono (ajc hnf hp hO hn0 hq hlt hI) ?_
  rintro ex a' w' (⟨rfl,h⟩|⟨rfl,h⟩)
  ·exact ⟨p+1,by omega,hlt,h⟩
  ·exact h
 ·have hpe:p=q.length:=by omega
  subst hpe
  obtain ⟨L,vs,bs,g2,hx,hLp,hw,hat⟩:=hI
  rw [List.drop_length] at hx
  obtain ⟨g3,H,_⟩:=Qx hat L.length (Nat.le_refl _)
  have e0:cellsOf ca true (L.take L.length)++bz (L.drop L.length) (vs.drop L.length)=cellsOf ca true L:=by
   rw [List.take_length,List.drop_length]
   exact List.append_nil _
  rw [e0] at H
  refine wpIn_mono (piece qe (by kernel_rfl) hnf (by omega) hn0 (by kernel_rfl) (by rw [hp];exact ams q L.length [some (.row (cellsOf ca true L) 0 0 42)]) H) ?_
  rintro ex a' w' ⟨e,S,st',g',rfl,hQ,hh,_⟩
  cases e with
  |normal=>exact hQ.elim
  |ret=>exact (by cases hQ.1)
  |exit id=>
   obtain ⟨e1,e2,rfl⟩:=hQ
   cases e1
   refine wpIn_mono (piece qe (by kernel_rfl) hnf (by omega) hn0 (by kernel_rfl) (by rw [hp];exact ahx L L.length S e2 rfl) hh) ?_
   rintro ex a' w' ⟨e,S,st',g',rfl,hQ,hh,_⟩
   rw [hx]
   exact ⟨e,S,st',g',rfl,hQ,hh.cur,hh.sl,hh.rn⟩
noncomputable def Hg (x:List c6 × Unit):Option AV:=open Classical in if mn x.1 then some ((r2 (bc ca) (b9 .i64)).E true (c9 x.1 [])) else none
set_option maxRecDepth 2000000 in
theorem ad3 (x:List c6 × Unit) (r:AV) (h:Hg x=some r):bw PP 7 ((aC (bc be) a0).E x) r:=by
 by_cases hc:mn x.1
 case neg=>simp only [Hg,if_neg hc] at h;cases h
 simp only [Hg,if_pos hc] at h
 cases h
 exact u4 (body:=Try.f7.body.getD .skip) Try.func7 (by kernel_rfl) (by kernel_rfl) (Nat.le_of_ble_eq_true (by kernel_rfl)) (r2 (bc ca) (b9 .i64)) true (c9 x.1 []) (fun B g a w hnf hp hO hn0 hh=>ae1 hnf hp hO hn0 hc hh)
noncomputable abbrev akb:Nat × Bool × (List AV→M AV):=(7,true,dr (aC (bc be) a0) Hg)
noncomputable def lr {α:Type} (a b : α):Bool:=@decide (a=b) (Classical.propDecidable _)
theorem Fl {α:Type} (a : α):lr a a=true:=by unfold lr;exact @decide_eq_true _ (Classical.propDecidable _) rfl
theorem jw {α:Type} {a b : α} (h:a≠b):lr a b=false:=by unfold lr;exact @decide_eq_false _ (Classical.propDecidable _) h
theorem Bi {α:Type} {a b : α} (h:a=b):lr a b=true:=by rw [h];exact Fl b
theorem wv {α:Type} {a b : α} (h:lr a b=true):a=b:=by unfold lr at h;exact @of_decide_eq_true _ (Classical.propDecidable _) h
theorem tv {α:Type} {a b : α} (h:lr a b=false):a≠b:=fun q=>by rw [q,Fl] at h;cases h
theorem tp {α:Type} {l m:List α} {i:Nat} {c d : α} (h:l.take i=m.take i) (hc:l[i]? = some c) (hd:m[i]? = some d) (e:c=d):l.take (i+1)=m.take (i+1):=by
 obtain ⟨h1,rfl⟩:=List.getElem?_eq_some_iff.1 hc
 obtain ⟨h2,rfl⟩:=List.getElem?_eq_some_iff.1 hd
 rw [List.take_succ_eq_append_getElem h1,List.take_succ_eq_append_getElem h2,h,e]
theorem v7 {α:Type} {l m:List α} {i:Nat} (h:l.take i=m.take i) (hi:¬ i<l.length) (hl:l.length=m.length):l=m:=by
 rwa [List.take_of_length_le (by omega),List.take_of_length_le (by omega)] at h
theorem r9 {α:Type} {l m:List α} {i:Nat} {c d : α} (hc:l[i]? = some c) (hd:m[i]? = some d) (e:c≠d):l≠m:=fun q=>by rw [q,hd] at hc;cases hc;exact e rfl
theorem vg {α:Type} {l m:List α} (h:(l.length:Int)≠m.length):l≠m:=fun q=>h (by rw [q])
theorem vu {α:Type} {l m:List α} {i:Nat} (hl:l.length=m.length) (hi:i<l.length):∃ d,m[i]? = some d:=⟨m[i],List.getElem?_eq_getElem (by omega)⟩
theorem Wy (a b:Name) (ha:a.length≤16777216):wl PP [] 0 (Try.f49.body.getD .skip) (dp PP Try.f49.results.toList (fun r st=>(r1 cz).get true st.h r=some (lr a b))) (de 0 [ak.val false a,ak.val false b]) (aw []):=by
 have hq:∀ a b c d,dv a b c=d→dv a b c=d:=fun _ _ _ _ h=>h
 unfold Try.f49
 simp only [dh]
 simp only [↓wR,RA,simprocAttr,TF,ae]
 rw [ew];refine ⟨fun ⟨h,e⟩=>?_,fun ⟨h,e⟩=>?_⟩
 ·simp only [↓wR,RA,simprocAttr,TF,ae,h,jw (vg e)]
 have hl:a.length=b.length:=by omega
 simp only [↓wR,RA,simprocAttr,TF,ae,h]
 refine fo [0,1,5] (fun (i:Nat)=>[.vl false 1 (a.map (ai.val false)),.vl false 1 (b.map (ai.val false)),.sc (.int .i64 (i))]) (fun _=>[]) (fun i=>i≤a.length∧a.take i=b.take i) (fun i=>a.length - i) 0 ⟨Nat.zero_le _,rfl⟩ (by simp only [↓wR,RA,simprocAttr,TF,ae]<;>rfl) (by simp only [↓wR,RA,simprocAttr,TF,ae]<;>rfl) ?_
 rintro i ⟨hi,hx⟩
 simp only [↓wR,RA,simprocAttr,TF,ae]
 rw [br];refine ⟨fun h2=>?_,fun h2=>?_⟩
 ·obtain ⟨c,hc,hd1,hlt⟩:=gn (decide_eq_true h2)
  obtain ⟨d,hd⟩:=vu hl hlt
  simp only [↓wR,RA,simprocAttr,TF,ae,h2]
  refine ⟨by kernel_rfl,.inl ?_⟩
  simp only [↓wR,RA,simprocAttr,TF,ae,hc,hd]
  refine ⟨by apply hq;kernel_rfl,?_⟩
  by_cases e2:c=d
  ·simp only [↓wR,RA,simprocAttr,TF,ae,decide_eq_true e2];repeat (simp (disch:=omega) only [ah,cq,cj,cp,cg];try simp only [↓wR,RA,simprocAttr,TF,ae,decide_eq_true e2])
   exact ⟨i+1,⟨hlt,tp hx hc hd e2⟩,by omega,by (first|rfl|trivial|omega|((try (simp (disch:=omega) only [ah]));(try (simp only [FB]));first|done|rfl|omega))⟩
  ·simp only [↓wR,RA,simprocAttr,TF,ae,decide_eq_false e2,jw (r9 hc hd e2)]
 ·simp only [↓wR,RA,simprocAttr,TF,ae,h2,Bi (v7 hx (by omega) hl)]
noncomputable def tt (x:Name × Name × Unit):Option AV:=if x.1.length≤16777216 then some ((r1 cz).E true (lr x.1 x.2.1)) else none
set_option maxRecDepth 2000000 in
theorem Ed (x:Name × Name × Unit) (r:AV) (h:tt x=some r):bw PP 49 ((aC ak (aC ak a0)).E x) r:=by
 by_cases hc:x.1.length≤16777216
 case neg=>simp only [tt,if_neg hc] at h;cases h
 simp only [tt,if_pos hc] at h
 cases h
 exact bh (aq.nil PP) Try.func49 (by kernel_rfl) (by kernel_rfl) (by kernel_rfl) (Nat.le_of_ble_eq_true (by kernel_rfl)) (r1 cz) true (lr x.1 x.2.1) (Wy x.1 x.2.1 hc)
noncomputable abbrev Su:Nat × Bool × (List AV→M AV):=(49,true,dr (aC ak (aC ak a0)) tt)
theorem Yz (a b:Name) (ha:a.length≤16777216):wl PP [Su] 0 (Try.f47.body.getD .skip) (dp PP Try.f47.results.toList (fun r st=>(r1 cz).get true st.h r=some (lr a b))) (de 0 [ak.val false a,ak.val false b]) (aw []):=by
 unfold Try.f47
 simp only [dh]
 simp only [↓wR,RA,simprocAttr,TF,ae,tt,ha]
noncomputable def qx (x:Name × Name × Unit):Option AV:=if x.1.length≤16777216 then some ((r1 cz).E true (lr x.1 x.2.1)) else none
set_option maxRecDepth 2000000 in
theorem xt (x:Name × Name × Unit) (r:AV) (h:qx x=some r):bw PP 47 ((aC ak (aC ak a0)).E x) r:=by
 by_cases hc:x.1.length≤16777216
 case neg=>simp only [qx,if_neg hc] at h;cases h
 simp only [qx,if_pos hc] at h
 cases h
 exact bh (aq.cons (ar Ed) (aq.nil PP)) Try.func47 (by kernel_rfl) (by kernel_rfl) (by kernel_rfl) (Nat.le_of_ble_eq_true (by kernel_rfl)) (r1 cz) true (lr x.1 x.2.1) (Yz x.1 x.2.1 hc)
noncomputable abbrev Hd:Nat × Bool × (List AV→M AV):=(47,true,dr (aC ak (aC ak a0)) qx)
theorem Xb (a b:List UInt8):wl PP [] 0 (Try.f50.body.getD .skip) (dp PP Try.f50.results.toList (fun r st=>(r1 cz).get true st.h r=some (lr a b))) (de 0 [(bc ay).val false a,(bc ay).val false b]) (aw []):=by
 unfold Try.f50
 simp only [lj]
 simp only [↓wR,RA,simprocAttr,TF,ae]
 congr 1
 by_cases e:a=b
 ·rw [Bi e,e];exact decide_eq_true rfl
 ·rw [jw e];exact decide_eq_false fun q=>e (by injection q with q;simpa using q)
noncomputable def De (x:List UInt8 × List UInt8 × Unit):Option AV:=some ((r1 cz).E true (lr x.1 x.2.1))
set_option maxRecDepth 2000000 in
theorem Na (x:List UInt8 × List UInt8 × Unit) (r:AV) (h:De x=some r):bw PP 50 ((aC (bc ay) (aC (bc ay) a0)).E x) r:=by
 cases h
 exact bh (aq.nil PP) Try.func50 (by kernel_rfl) (by kernel_rfl) (by kernel_rfl) (Nat.le_of_ble_eq_true (by kernel_rfl)) (r1 cz) true (lr x.1 x.2.1) (Xb x.1 x.2.1)
noncomputable abbrev ad8:Nat × Bool × (List AV→M AV):=(50,true,dr (aC (bc ay) (aC (bc ay) a0)) De)
theorem Ay {a b:a9} (h:¬ (a.names=b.names∧a.nums=b.nums∧a.texts=b.texts∧a.raw=b.raw)):a≠b:=fun q=>h (by rw [q];exact ⟨rfl,rfl,rfl,rfl⟩)
theorem al8 {a b:a9} (h1:a.names=b.names) (h2:a.nums=b.nums) (h3:a.texts=b.texts) (h4:a.raw=b.raw):a=b:=by
 cases a;cases b;simp_all
set_option maxHeartbeats 4000000 in
theorem Wu (a b:a9) (ha:ba a):wl PP [Su,Hd,ad8] 0 (Try.f25.body.getD .skip) (dp PP Try.f25.results.toList (fun r st=>(r1 cz).get true st.h r=some (lr a b))) (de 0 [ag.val false a,ag.val false b]) (aw []):=by
 have hls:=ha.lens
 have hq:∀ a b c d,dv a b c=d→dv a b c=d:=fun _ _ _ _ h=>h
 unfold Try.f25
 simp only [fy]
 simp only [↓wR,RA,simprocAttr,TF,ae]
 rw [ew];refine ⟨fun ⟨h1,e1⟩=>?_,fun ⟨h1,e1⟩=>?_⟩
 ·simp only [↓wR,RA,simprocAttr,TF,ae,h1,jw (Ay fun q=>vg e1 q.1)]
 simp only [↓wR,RA,simprocAttr,TF,ae,h1]
 rw [ew];refine ⟨fun ⟨h2,e2⟩=>?_,fun ⟨h2,e2⟩=>?_⟩
 ·simp only [↓wR,RA,simprocAttr,TF,ae,h2,jw (Ay fun q=>vg e2 q.2.1)]
 simp only [↓wR,RA,simprocAttr,TF,ae,h2,tt,hls.2.2.1]
 cases h3:lr a.texts b.texts with
 |false=>simp only [↓wR,RA,simprocAttr,TF,ae,jw (Ay fun q=>tv h3 q.2.2.1)]
 |true=>
 simp only [↓wR,RA,simprocAttr,TF,ae,De]
 cases h4:lr a.raw b.raw with
 |false=>simp only [↓wR,RA,simprocAttr,TF,ae,jw (Ay fun q=>tv h4 q.2.2.2)]
 |true=>
 have hl1:a.names.length=b.names.length:=by omega
 have hl2:a.nums.length=b.nums.length:=by omega
 simp only [↓wR,RA,simprocAttr,TF,ae]
 refine fo [2,3,5] (fun (i:Nat)=>[.ptr 0 0,.ptr 1 0,.sc (.int .i64 (i))]) (fun _=>[some (.row [.vl false 1 (a.names.map (ak.val false)),.vl false 1 (a.nums.map (bo.val false)),.vl false 1 (a.texts.map (ai.val false)),.vl false 1 (a.raw.map (ay.val false))] 0 2 47),some (.row [.vl false 1 (b.names.map (ak.val false)),.vl false 1 (b.nums.map (bo.val false)),.vl false 1 (b.texts.map (ai.val false)),.vl false 1 (b.raw.map (ay.val false))] 0 2 47)]) (fun i=>i≤a.names.length∧a.names.take i=b.names.take i) (fun i=>a.names.length - i) 0 ⟨Nat.zero_le _,rfl⟩ (by simp only [↓wR,RA,simprocAttr,TF,ae]<;>rfl) (by simp only [↓wR,RA,simprocAttr,TF,ae]<;>rfl) ?_
 rintro i ⟨hi,hx⟩
 simp only [↓wR,RA,simprocAttr,TF,ae]
 rw [br];refine ⟨fun h5=>?_,fun h5=>?_⟩
 ·obtain ⟨c,hc,hd1,hlt⟩:=gn (decide_eq_true h5)
  obtain ⟨d,hd⟩:=vu hl1 hlt
  have hcl:c.length≤16777216:=by have:=(ha.name c (List.mem_of_getElem? hc));have:=(i4 c 0).2;unfold cf at *;omega
  simp only [↓wR,RA,simprocAttr,TF,ae,h5]
  refine ⟨by kernel_rfl,.inl ?_⟩
  simp only [↓wR,RA,simprocAttr,TF,ae,hc,hd,qx,hcl]
  refine ⟨by apply hq;kernel_rfl,?_⟩
  cases e6:lr c d with
  |true=>
   simp only [↓wR,RA,simprocAttr,TF,ae];repeat (simp (disch:=omega) only [ah,cq,cj,cp,cg];try simp only [↓wR,RA,simprocAttr,TF,ae])
   exact ⟨i+1,⟨hlt,tp hx hc hd (wv e6)⟩,by omega,by (first|rfl|trivial|omega|((try (simp (disch:=omega) only [ah]));(try (simp only [FB]));first|done|rfl|omega))⟩
  |false=>simp only [↓wR,RA,simprocAttr,TF,ae,jw (Ay fun q=>r9 hc hd (tv e6) q.1)]
 have hnm:=v7 hx (by omega) hl1
 simp only [↓wR,RA,simprocAttr,TF,ae,h5]
 refine fo [2,3,6] (fun (i:Nat)=>[.ptr 0 0,.ptr 1 0,.sc (.int .i64 (i))]) (fun _=>[some (.row [.vl false 1 (a.names.map (ak.val false)),.vl false 1 (a.nums.map (bo.val false)),.vl false 1 (a.texts.map (ai.val false)),.vl false 1 (a.raw.map (ay.val false))] 0 2 47),some (.row [.vl false 1 (b.names.map (ak.val false)),.vl false 1 (b.nums.map (bo.val false)),.vl false 1 (b.texts.map (ai.val false)),.vl false 1 (b.raw.map (ay.val false))] 0 2 47)]) (fun i=>i≤a.nums.length∧a.nums.take i=b.nums.take i) (fun i=>a.nums.length - i) 0 ⟨Nat.zero_le _,rfl⟩ (by simp only [↓wR,RA,simprocAttr,TF,ae]<;>rfl) (by simp only [↓wR,RA,simprocAttr,TF,ae]<;>rfl) ?_
 clear hi hx h5
 rintro i ⟨hi,hx⟩
 simp only [↓wR,RA,simprocAttr,TF,ae]
 rw [br];refine ⟨fun h5=>?_,fun h5=>?_⟩
 ·obtain ⟨c,hc,hd1,hlt⟩:=gn (decide_eq_true h5)
  obtain ⟨d,hd⟩:=vu hl2 hlt
  simp only [↓wR,RA,simprocAttr,TF,ae,h5]
  refine ⟨by kernel_rfl,.inl ?_⟩
  simp only [↓wR,RA,simprocAttr,TF,ae,hc,hd]
  refine ⟨by apply hq;kernel_rfl,?_⟩
  rw [ew];refine ⟨fun ⟨h6,e6⟩=>?_,fun ⟨h6,e6⟩=>?_⟩
  ·simp only [↓wR,RA,simprocAttr,TF,ae,h6,jw (Ay fun q=>r9 hc hd (fun q=>e6 (by rw [q])) q.2.1)]
  ·simp only [↓wR,RA,simprocAttr,TF,ae,h6];repeat (simp (disch:=omega) only [ah,cq,cj,cp,cg];try simp only [↓wR,RA,simprocAttr,TF,ae,h6])
   exact ⟨i+1,⟨hlt,tp hx hc hd (UInt32.toNat_inj.1 (by omega))⟩,by omega,by (first|rfl|trivial|omega|((try (simp (disch:=omega) only [ah]));(try (simp only [FB]));first|done|rfl|omega))⟩
 ·simp only [↓wR,RA,simprocAttr,TF,ae,h5,Bi (al8 hnm (v7 hx (by omega) hl2) (wv h3) (wv h4))]
noncomputable def ue (x:a9 × a9 × Unit):Option AV:=if ba x.1 then some ((r1 cz).E true (lr x.1 x.2.1)) else none
set_option maxRecDepth 2000000 in
theorem Du (x:a9 × a9 × Unit) (r:AV) (h:ue x=some r):bw PP 25 ((aC ag (aC ag a0)).E x) r:=by
 by_cases hc:ba x.1
 case neg=>simp only [ue,if_neg hc] at h;cases h
 simp only [ue,if_pos hc] at h
 cases h
 exact bh (aq.cons (ar Ed) (aq.cons (ar xt) (aq.cons (ar Na) (aq.nil PP)))) Try.func25 (by kernel_rfl) (by kernel_rfl) (by kernel_rfl) (Nat.le_of_ble_eq_true (by kernel_rfl)) (r1 cz) true (lr x.1 x.2.1) (Wu x.1 x.2.1 hc)
noncomputable abbrev Qy:Nat × Bool × (List AV→M AV):=(25,true,dr (aC ag (aC ag a0)) ue)
theorem D5 {a b:bp} (h:¬ (a.owner=b.owner∧a.type=b.type∧a.cls=b.cls∧a.cd=b.cd∧a.data=b.data)):a≠b:=fun q=>h (by rw [q];exact ⟨rfl,rfl,rfl,rfl,rfl⟩)
theorem aqa {a b:bp} (h1:a.owner=b.owner) (h2:a.type=b.type) (h3:a.cls=b.cls) (h4:a.cd=b.cd) (h5:a.data=b.data):a=b:=by
 cases a;cases b;simp_all
set_option maxHeartbeats 4000000 in
theorem Y2 (a b:bp) (ha:pj a):wl PP [Hd,Qy] 0 (Try.f22.body.getD .skip) (dp PP Try.f22.results.toList (fun r st=>(r1 cz).get true st.h r=some (lr a b))) (de 0 [ca.val false a,ca.val false b]) (aw []):=by
 have hol:a.owner.length≤16777216:=by have:=ha.owner;have:=(i4 a.owner 0).2;unfold cf at *;omega
 have hdl:=ha.data.len
 have hq:∀ a b c d,dv a b c=d→dv a b c=d:=fun _ _ _ _ h=>h
 unfold Try.f22
 simp only [E7]
 simp only [↓wR,RA,simprocAttr,TF,ae,qx,hol]
 cases h1:lr a.owner b.owner with
 |false=>simp only [↓wR,RA,simprocAttr,TF,ae,jw (D5 fun q=>tv h1 q.1)]
 |true=>
 simp only [↓wR,RA,simprocAttr,TF,ae]
 rw [ew];refine ⟨fun ⟨h2,e2⟩=>?_,fun ⟨h2,e2⟩=>?_⟩
 ·simp only [↓wR,RA,simprocAttr,TF,ae,h2,jw (D5 fun q=>e2 (by rw [q.2.1]))]
 simp only [↓wR,RA,simprocAttr,TF,ae,h2]
 rw [ew];refine ⟨fun ⟨h3,e3⟩=>?_,fun ⟨h3,e3⟩=>?_⟩
 ·simp only [↓wR,RA,simprocAttr,TF,ae,h3,jw (D5 fun q=>e3 (by rw [q.2.2.1]))]
 simp only [↓wR,RA,simprocAttr,TF,ae,h3]
 rw [ew];refine ⟨fun ⟨h4,e4⟩=>?_,fun ⟨h4,e4⟩=>?_⟩
 ·simp only [↓wR,RA,simprocAttr,TF,ae,h4,jw (D5 fun q=>e4 (by rw [q.2.2.2.1]))]
 simp only [↓wR,RA,simprocAttr,TF,ae,h4]
 rw [ew];refine ⟨fun ⟨h5,e5⟩=>?_,fun ⟨h5,e5⟩=>?_⟩
 ·simp only [↓wR,RA,simprocAttr,TF,ae,h5,jw (D5 fun q=>vg e5 q.2.2.2.2)]
 have hl1:a.data.length=b.data.length:=by omega
 simp only [↓wR,RA,simprocAttr,TF,ae,h5]
 refine fo [2,3,5] (fun (i:Nat)=>[.ptr 0 0,.ptr 1 0,.sc (.int .i64 (i))]) (fun _=>[some (.row [.vl false 1 (a.owner.map (ai.val false)),.sc (.int .u16 a.type.toNat),.sc (.int .u16 a.cls.toNat),.sc (.int .u32 a.cd.toNat),.vl false 4 (a.data.map (ag.val false))] 0 2 42),some (.row [.vl false 1 (b.owner.map (ai.val false)),.sc (.int .u16 b.type.toNat),.sc (.int .u16 b.cls.toNat),.sc (.int .u32 b.cd.toNat),.vl false 4 (b.data.map (ag.val false))] 0 2 42)]) (fun i=>i≤a.data.length∧a.data.take i=b.data.take i) (fun i=>a.data.length - i) 0 ⟨Nat.zero_le _,rfl⟩ (by simp only [↓wR,RA,simprocAttr,TF,ae]<;>rfl) (by simp only [↓wR,RA,simprocAttr,TF,ae]<;>rfl) ?_
 rintro i ⟨hi,hx⟩
 simp only [↓wR,RA,simprocAttr,TF,ae]
 rw [br];refine ⟨fun h6=>?_,fun h6=>?_⟩
 ·obtain ⟨c,hc,hd1,hlt⟩:=gn (decide_eq_true h6)
  obtain ⟨d,hd⟩:=vu hl1 hlt
  have hcs:=ha.data.mem c (List.mem_of_getElem? hc)
  simp only [↓wR,RA,simprocAttr,TF,ae,h6]
  refine ⟨by kernel_rfl,.inl ?_⟩
  simp only [↓wR,RA,simprocAttr,TF,ae,hc,hd,ue,hcs]
  refine ⟨by apply hq;kernel_rfl,?_⟩
  cases e7:lr c d with
  |true=>
   simp only [↓wR,RA,simprocAttr,TF,ae];repeat (simp (disch:=omega) only [ah,cq,cj,cp,cg];try simp only [↓wR,RA,simprocAttr,TF,ae])
   exact ⟨i+1,⟨hlt,tp hx hc hd (wv e7)⟩,by omega,by (first|rfl|trivial|omega|((try (simp (disch:=omega) only [ah]));(try (simp only [FB]));first|done|rfl|omega))⟩
  |false=>simp only [↓wR,RA,simprocAttr,TF,ae,jw (D5 fun q=>r9 hc hd (tv e7) q.2.2.2.2)]
 ·simp only [↓wR,RA,simprocAttr,TF,ae,h6,Bi (aqa (wv h1) (UInt16.toNat_inj.1 (by omega)) (UInt16.toNat_inj.1 (by omega)) (UInt32.toNat_inj.1 (by omega)) (v7 hx (by omega) hl1))]
noncomputable def zq (x:bp × bp × Unit):Option AV:=if pj x.1 then some ((r1 cz).E true (lr x.1 x.2.1)) else none
set_option maxRecDepth 2000000 in
theorem S2 (x:bp × bp × Unit) (r:AV) (h:zq x=some r):bw PP 22 ((aC ca (aC ca a0)).E x) r:=by
 by_cases hc:pj x.1
 case neg=>simp only [zq,if_neg hc] at h;cases h
 simp only [zq,if_pos hc] at h
 cases h
 exact bh (aq.cons (ar xt) (aq.cons (ar Du) (aq.nil PP))) Try.func22 (by kernel_rfl) (by kernel_rfl) (by kernel_rfl) (Nat.le_of_ble_eq_true (by kernel_rfl)) (r1 cz) true (lr x.1 x.2.1) (Y2 x.1 x.2.1 hc)
noncomputable abbrev ah2:Nat × Bool × (List AV→M AV):=(22,true,dr (aC ca (aC ca a0)) zq)
theorem W2 (a b:List bp) (ha:Bx a):wl PP [ah2] 0 (Try.f8.body.getD .skip) (dp PP Try.f8.results.toList (fun r st=>(r1 cz).get true st.h r=some (lr a b))) (de 0 [(bc ca).val false a,(bc ca).val false b]) (aw []):=by
 have hal:=ha.1
 have hq:∀ a b c d,dv a b c=d→dv a b c=d:=fun _ _ _ _ h=>h
 unfold Try.f8
 simp only [lj]
 simp only [↓wR,RA,simprocAttr,TF,ae]
 rw [ew];refine ⟨fun ⟨h,e⟩=>?_,fun ⟨h,e⟩=>?_⟩
 ·simp only [↓wR,RA,simprocAttr,TF,ae,h,jw (vg e)]
 have hl:a.length=b.length:=by omega
 simp only [↓wR,RA,simprocAttr,TF,ae,h]
 refine fo [0,1,5] (fun (i:Nat)=>[.vl false 5 (a.map (ca.val false)),.vl false 5 (b.map (ca.val false)),.sc (.int .i64 (i))]) (fun _=>[]) (fun i=>i≤a.length∧a.take i=b.take i) (fun i=>a.length - i) 0 ⟨Nat.zero_le _,rfl⟩ (by simp only [↓wR,RA,simprocAttr,TF,ae]<;>rfl) (by simp only [↓wR,RA,simprocAttr,TF,ae]<;>rfl) ?_
 rintro i ⟨hi,hx⟩
 simp only [↓wR,RA,simprocAttr,TF,ae]
 rw [br];refine ⟨fun h2=>?_,fun h2=>?_⟩
 ·obtain ⟨c,hc,hd1,hlt⟩:=gn (decide_eq_true h2)
  obtain ⟨d,hd⟩:=vu hl hlt
  have hcs:=ha.2 c (List.mem_of_getElem? hc)
  simp only [↓wR,RA,simprocAttr,TF,ae,h2]
  refine ⟨by kernel_rfl,.inl ?_⟩
  simp only [↓wR,RA,simprocAttr,TF,ae,hc,hd,zq,hcs]
  refine ⟨by apply hq;kernel_rfl,?_⟩
  cases e7:lr c d with
  |true=>
   simp only [↓wR,RA,simprocAttr,TF,ae];repeat (simp (disch:=omega) only [ah,cq,cj,cp,cg];try simp only [↓wR,RA,simprocAttr,TF,ae])
   exact ⟨i+1,⟨hlt,tp hx hc hd (wv e7)⟩,by omega,by (first|rfl|trivial|omega|((try (simp (disch:=omega) only [ah]));(try (simp only [FB]));first|done|rfl|omega))⟩
  |false=>simp only [↓wR,RA,simprocAttr,TF,ae,jw (r9 hc hd (tv e7))]
 ·simp only [↓wR,RA,simprocAttr,TF,ae,h2,Bi (v7 hx (by omega) hl)]
noncomputable def uc (x:List bp × List bp × Unit):Option AV:=if Bx x.1 then some ((r1 cz).E true (lr x.1 x.2.1)) else none
set_option maxRecDepth 2000000 in
theorem Dk (x:List bp × List bp × Unit) (r:AV) (h:uc x=some r):bw PP 8 ((aC (bc ca) (aC (bc ca) a0)).E x) r:=by
 by_cases hc:Bx x.1
 case neg=>simp only [uc,if_neg hc] at h;cases h
 simp only [uc,if_pos hc] at h
 cases h
 exact bh (aq.cons (ar S2) (aq.nil PP)) Try.func8 (by kernel_rfl) (by kernel_rfl) (by kernel_rfl) (Nat.le_of_ble_eq_true (by kernel_rfl)) (r1 cz) true (lr x.1 x.2.1) (W2 x.1 x.2.1 hc)
noncomputable abbrev B3:Nat × Bool × (List AV→M AV):=(8,true,dr (aC (bc ca) (aC (bc ca) a0)) uc)
def asd (r:G5):Prop:=Bx r.answer∧(Bx r.authority∧Bx r.Fg)
instance (r:G5):Decidable (asd r):=inferInstanceAs (Decidable (_∧_))
theorem xb {W N:Nat}:∀ (rest:List c6) (L a:List bp),(∀ s ∈ L,dq j4 s.data+dq g6 rest≤W∧s.data.length+rest.length≤N)→dq g6 rest≤W→rest.length≤N→c9 rest L=(a,0)→a.length≤L.length+rest.length∧∀ s ∈ a,dq j4 s.data≤W∧s.data.length≤N
 | [],L,a,h,_,_,e=>by
  rw [c9] at e;cases e
  refine ⟨Nat.le_refl _,fun s hs=>?_⟩
  have:=h s hs
  simp only [List.length_nil] at this
  omega
 |r::rest,L,a,h,hW,hN,e=>by
  have hw:dq g6 (r::rest)=j4 r.data+dq g6 rest+1:=rfl
  simp only [List.length_cons] at hN h ⊢
  rw [hw] at hW
  rw [c9] at e
  split at e
  ·rename_i h1;have:=congrArg (fun x:List bp × Int=>x.2) e;exact absurd this h1
  split at e
  ·rename_i h2;have:=congrArg (fun x:List bp × Int=>x.2) e;exact absurd this h2
  cases hk:ir (fl r) 0 (L.map cx) with
  |none=>
   rw [hk] at e
   obtain ⟨q1,q2⟩:=xb (W:=W) (N:=N) rest _ a (fun s hs=>by
    rcases List.mem_append.1 hs with hs|hs
    ·have:=h s hs;rw [hw] at this;omega
    ·simp only [List.mem_singleton] at hs;subst hs
     show j4 r.data+0+1+dq g6 rest≤W∧1+rest.length≤N
     omega) (by omega) (by omega) e
   refine ⟨?_,q2⟩
   simp only [List.length_append,List.length_singleton] at q1
   omega
  |some i=>
   rw [hk] at e
   simp only at e
   cases hs:L[i]? with
   |none=>
    obtain ⟨p,hp,hkp⟩:=Ag _ 0 i hk
    rw [Nat.zero_add] at hp;subst hp
    rw [List.getElem?_map,hs] at hkp;cases hkp
   |some s=>
   rw [hs] at e
   simp only at e
   have hsl:=h s (List.mem_of_getElem? hs)
   rw [hw] at hsl
   split at e
   ·obtain ⟨q1,q2⟩:=xb (W:=W) (N:=N) rest _ a (fun x hx=>by
     rcases List.mem_or_eq_of_mem_set hx with q1|q1
     ·have:=h x q1;rw [hw] at this;omega
     ·subst q1;show dq j4 s.data+dq g6 rest≤W∧s.data.length+rest.length≤N;omega) (by omega) (by omega) e
    rw [List.length_set] at q1
    exact ⟨by omega,q2⟩
   split at e
   ·have:=congrArg (fun x:List bp × Int=>x.2) e;cases this
   ·obtain ⟨q1,q2⟩:=xb (W:=W) (N:=N) rest _ a (fun x hx=>by
     rcases List.mem_or_eq_of_mem_set hx with q1|q1
     ·have:=h x q1;rw [hw] at this;omega
     ·subst q1
      have e1:dq j4 (s.data++[r.data])=dq j4 s.data+(j4 r.data+0+1):=by rw [pd];rfl
      have e2:(s.data++[r.data]).length=s.data.length+1:=by simp
      show dq j4 (s.data++[r.data])+dq g6 rest≤W∧(s.data++[r.data]).length+rest.length≤N
      omega) (by omega) (by omega) e
    rw [List.length_set] at q1
    exact ⟨by omega,q2⟩
theorem ab3 {l:List c6} {A:List bp} (hw:dq g6 l≤8388608) (hl:l.length≤60) (hS:re l A) (e:c9 l []=(A,0)):Bx A∧A.length≤60∧∀ s ∈ A,s.data.length≤60:=by
 obtain ⟨q1,q2⟩:=xb (W:=8388608) (N:=60) l [] A (fun s hs=>(by cases hs)) hw hl e
 simp only [List.length_nil,Nat.zero_add] at q1
 refine ⟨⟨by omega,fun s hs=>?_⟩,by omega,fun s hs=>(q2 s hs).2⟩
 have h1:=(hS.Tl s hs).1
 have h2:bg s.owner≤255:=by
  unfold bj at h1
  split at h1
  ·cases h1
  split at h1
  ·cases h1
  ·omega
 have:=(q2 s hs).1
 unfold pj Zs;omega
theorem rec_eq {a b:c6} (h1:a.owner=b.owner) (h2:a.type=b.type) (h3:a.cls=b.cls) (h4:a.cd=b.cd) (h5:a.data=b.data):a=b:=by
 cases a;cases b;simp_all
theorem Ij {a b:c6} (h:¬ (a.owner=b.owner∧a.type=b.type∧a.cls=b.cls∧a.cd=b.cd∧a.data=b.data)):a≠b:=fun q=>h (by rw [q];exact ⟨rfl,rfl,rfl,rfl,rfl⟩)
theorem Yc (a b:c6) (ha:cf a.owner) (hd:ba a.data):wl PP [Hd,Qy] 0 (Try.f37.body.getD .skip) (dp PP Try.f37.results.toList (fun r st=>(r1 cz).get true st.h r=some (lr a b))) (de 0 [be.val false a,be.val false b]) (aw []):=by
 have hol:a.owner.length≤16777216:=by have:=(i4 a.owner 0).2;unfold cf at *;omega
 unfold Try.f37
 simp only [Aj]
 simp only [↓wR,RA,simprocAttr,TF,ae,qx,hol]
 cases h1:lr a.owner b.owner with
 |false=>simp only [↓wR,RA,simprocAttr,TF,ae,jw (Ij fun q=>tv h1 q.1)]
 |true=>
 simp only [↓wR,RA,simprocAttr,TF,ae]
 rw [c8];refine ⟨fun ⟨h2,e2⟩=>?_,fun ⟨h2,e2⟩=>?_⟩
 ·simp only [↓wR,RA,simprocAttr,TF,ae,h2]
  rw [c8];refine ⟨fun ⟨h3,e3⟩=>?_,fun ⟨h3,e3⟩=>?_⟩
  ·simp only [↓wR,RA,simprocAttr,TF,ae,h3]
   rw [c8];refine ⟨fun ⟨h4,e4⟩=>?_,fun ⟨h4,e4⟩=>?_⟩
   ·simp only [↓wR,RA,simprocAttr,TF,ae,h4,ue,hd]
    cases h5:lr a.data b.data with
    |true=>simp only [↓wR,RA,simprocAttr,TF,ae,Bi (rec_eq (wv h1) (UInt16.toNat_inj.1 (by omega)) (UInt16.toNat_inj.1 (by omega)) (UInt32.toNat_inj.1 (by omega)) (wv h5))]
    |false=>simp only [↓wR,RA,simprocAttr,TF,ae,jw (Ij fun q=>tv h5 q.2.2.2.2)]
   ·simp only [↓wR,RA,simprocAttr,TF,ae,h4,jw (Ij fun q=>e4 (by rw [q.2.2.2.1]))]
  ·simp only [↓wR,RA,simprocAttr,TF,ae,h3,jw (Ij fun q=>e3 (by rw [q.2.2.1]))]
 ·simp only [↓wR,RA,simprocAttr,TF,ae,h2,jw (Ij fun q=>e2 (by rw [q.2.1]))]
noncomputable def zn (x:c6 × c6 × Unit):Option AV:=if cf x.1.owner∧ba x.1.data then some ((r1 cz).E true (lr x.1 x.2.1)) else none
set_option maxRecDepth 2000000 in
theorem Td (x:c6 × c6 × Unit) (r:AV) (h:zn x=some r):bw PP 37 ((aC be (aC be a0)).E x) r:=by
 by_cases hc:cf x.1.owner∧ba x.1.data
 case neg=>simp only [zn,if_neg hc] at h;cases h
 simp only [zn,if_pos hc] at h
 cases h
 exact bh (aq.cons (ar xt) (aq.cons (ar Du) (aq.nil PP))) Try.func37 (by kernel_rfl) (by kernel_rfl) (by kernel_rfl) (Nat.le_of_ble_eq_true (by kernel_rfl)) (r1 cz) true (lr x.1 x.2.1) (Yc x.1 x.2.1 hc.1 hc.2)
noncomputable abbrev aiu:Nat × Bool × (List AV→M AV):=(37,true,dr (aC be (aC be a0)) zn)
def Mu (l:List c6):Prop:=l.length≤281474976710656∧∀ r ∈ l,cf r.owner∧ba r.data
instance (l:List c6):Decidable (Mu l):=inferInstanceAs (Decidable (_∧_))
theorem Xq (a b:List c6) (ha:Mu a):wl PP [aiu] 0 (Try.f9.body.getD .skip) (dp PP Try.f9.results.toList (fun r st=>(r1 cz).get true st.h r=some (lr a b))) (de 0 [(bc be).val false a,(bc be).val false b]) (aw []):=by
 have hal:=ha.1
 have hq:∀ a b c d,dv a b c=d→dv a b c=d:=fun _ _ _ _ h=>h
 unfold Try.f9
 simp only [lj]
 simp only [↓wR,RA,simprocAttr,TF,ae]
 rw [ew];refine ⟨fun ⟨h,e⟩=>?_,fun ⟨h,e⟩=>?_⟩
 ·simp only [↓wR,RA,simprocAttr,TF,ae,h,jw (vg e)]
 have hl:a.length=b.length:=by omega
 simp only [↓wR,RA,simprocAttr,TF,ae,h]
 refine fo [0,1,5] (fun (i:Nat)=>[.vl false 8 (a.map (be.val false)),.vl false 8 (b.map (be.val false)),.sc (.int .i64 (i))]) (fun _=>[]) (fun i=>i≤a.length∧a.take i=b.take i) (fun i=>a.length - i) 0 ⟨Nat.zero_le _,rfl⟩ (by simp only [↓wR,RA,simprocAttr,TF,ae]<;>rfl) (by simp only [↓wR,RA,simprocAttr,TF,ae]<;>rfl) ?_
 rintro i ⟨hi,hx⟩
 simp only [↓wR,RA,simprocAttr,TF,ae]
 rw [br];refine ⟨fun h2=>?_,fun h2=>?_⟩
 ·obtain ⟨c,hc,hd1,hlt⟩:=gn (decide_eq_true h2)
  obtain ⟨d,hd⟩:=vu hl hlt
  obtain ⟨hcs,hcd⟩:=ha.2 c (List.mem_of_getElem? hc)
  simp only [↓wR,RA,simprocAttr,TF,ae,h2]
  refine ⟨by kernel_rfl,.inl ?_⟩
  simp only [↓wR,RA,simprocAttr,TF,ae,hc,hd,zn,hcs,hcd]
  refine ⟨by apply hq;kernel_rfl,?_⟩
  cases e7:lr c d with
  |true=>
   simp only [↓wR,RA,simprocAttr,TF,ae];repeat (simp (disch:=omega) only [ah,cq,cj,cp,cg];try simp only [↓wR,RA,simprocAttr,TF,ae])
   exact ⟨i+1,⟨hlt,tp hx hc hd (wv e7)⟩,by omega,by (first|rfl|trivial|omega|((try (simp (disch:=omega) only [ah]));(try (simp only [FB]));first|done|rfl|omega))⟩
  |false=>simp only [↓wR,RA,simprocAttr,TF,ae,jw (r9 hc hd (tv e7))]
 ·simp only [↓wR,RA,simprocAttr,TF,ae,h2,Bi (v7 hx (by omega) hl)]
noncomputable def tk (x:List c6 × List c6 × Unit):Option AV:=if Mu x.1 then some ((r1 cz).E true (lr x.1 x.2.1)) else none
set_option maxRecDepth 2000000 in
theorem Dt (x:List c6 × List c6 × Unit) (r:AV) (h:tk x=some r):bw PP 9 ((aC (bc be) (aC (bc be) a0)).E x) r:=by
 by_cases hc:Mu x.1
 case neg=>simp only [tk,if_neg hc] at h;cases h
 simp only [tk,if_pos hc] at h
 cases h
 exact bh (aq.cons (ar Td) (aq.nil PP)) Try.func9 (by kernel_rfl) (by kernel_rfl) (by kernel_rfl) (Nat.le_of_ble_eq_true (by kernel_rfl)) (r1 cz) true (lr x.1 x.2.1) (Xq x.1 x.2.1 hc)
noncomputable abbrev B6:Nat × Bool × (List AV→M AV):=(9,true,dr (aC (bc be) (aC (bc be) a0)) tk)
theorem Al:∀ (rest:List c6) (L:List bp),(c9 rest L).2≠0→(c9 rest L).1=[]
 | [],L,h=>absurd rfl h
 |r::rest,L,h=>by
  rw [c9] at h ⊢
  by_cases h1:bj r.owner=0
  case neg=>rw [if_pos h1]
  rw [if_neg (show ¬ bj r.owner≠0 from fun q=>q h1)] at h ⊢
  by_cases h2:ct r.type r.data=0
  case neg=>rw [if_pos h2]
  rw [if_neg (show ¬ ct r.type r.data≠0 from fun q=>q h2)] at h ⊢
  cases hk:ir (fl r) 0 (L.map cx) with
  |none=>
   rw [hk] at h
   exact Al rest _ h
  |some i=>
   rw [hk] at h
   cases hi:L[i]? with
   |none=>simp only [hi]
   |some s=>
    simp only [hi] at h ⊢
    by_cases h3:jo s.type s.data r.data=true
    ·rw [if_pos h3] at h ⊢;exact Al rest _ h
    ·rw [if_neg h3] at h ⊢
     by_cases h4 : 512≤s.data.length
     ·rw [if_pos h4]
     ·rw [if_neg h4] at h ⊢;exact Al rest _ h
theorem afx {l:List c6} (hw:dq g6 l≤8388608) (hl:l.length≤60):Bx (c9 l []).1∧(c9 l []).1.length≤60:=by
 by_cases h:(c9 l []).2=0
 ·have e:c9 l []=((c9 l []).1,0):=Prod.ext rfl h
  have hS:=yx l [] [] _ re.nil e
  rw [List.nil_append] at hS
  have:=ab3 hw hl hS e
  exact ⟨this.1,this.2.1⟩
 ·rw [Al l [] h]
  exact ⟨⟨by simp,fun s hs=>by cases hs⟩,by simp⟩
theorem N9 {l:List c6} (hg:mn l):Mu l:=⟨Nat.le_trans hg.len (by decide),fun r hr=>⟨hg.owner r hr,by
 have h1:g6 r<dq g6 l:=pz hr
 have h2:=hg.data
 unfold ba;unfold g6 at *;omega⟩⟩
theorem amp (l:List c6) (hg:mn l):wl PP [] 0 (ub 3 (Try.f3.body.getD .skip)) (Ao (fun L st=>l.length≤60∧(aC (bc be) (aC (bc be) a0)).get st.h [lk L 0,lk L 3]=some (l,l,())) (dp PP Try.f3.results.toList (fun r st=>(r1 cz).get true st.h r=some true))) (de 0 [(bc be).val false l]) (aw []):=by
 have hln:=hg.len
 have hdr:∀ fr h k st et,um fr st 8 be.kd et=true→je be fr h 0 l.length (.row (cellsOf be true l) k st et)=some l:=fun fr h k st et hro=>j9 be fr h true _ k st et _ rfl (by cases fr<;>rfl) hro
 unfold Try.f3
 simp only [lj]
 simp only [↓wR,RA,simprocAttr,TF,ae,↓s6,↓sv,↓sw,↓tc,↓qo,↓qm,↓vo,↓u9,↓z5,vn,vk,vh]
 rw [br];refine ⟨fun h1=>?_,fun h1=>?_⟩
 ·simp only [↓wR,RA,simprocAttr,TF,ae,↓s6,↓sv,↓sw,↓tc,↓qo,↓qm,↓vo,↓u9,↓z5,vn,vk,vh,h1]
  try rfl
 have h2:l.length≤60:=by omega
 simp only [↓wR,RA,simprocAttr,TF,ae,↓s6,↓sv,↓sw,↓tc,↓qo,↓qm,↓vo,↓u9,↓z5,vn,vk,vh,h1]
 refine l7 [] (S4 l hg) (by decide) (by simp only [↓wR,RA,simprocAttr,TF,ae]) (by simp only [↓wR,RA,simprocAttr,TF,ae]) (Nat.le_of_ble_eq_true rfl) (by simp only [↓wR,RA,simprocAttr,TF,ae,lj]) (by simp only [↓wR,RA,simprocAttr,TF,ae]) ⟨Nat.le_of_ble_eq_true rfl,Nat.le_of_ble_eq_true rfl⟩ ?_
 simp only [↓wR,RA,simprocAttr,TF,ae,↓s6,↓sv,↓sw,↓tc,↓qo,↓qm,↓vo,↓u9,↓z5,vn,vk,vh,kh,iz,jq,ky,pw,hdr]
 exact h2
theorem anb (l:List c6) (hg:mn l):wl PP [Ts] 0 (ub 1 (lg 3 (Try.f3.body.getD .skip))) (Ao (fun L st=>(bc ca).gk true st.h (lk L 4)=some (c9 l []).1∧(aC (bc be) (aC (bc be) (aC (bc ca) (aC (b9 .i64) a0)))).get st.h [lk L 0,lk L 3,lk L 4,lk L 5]=some (l,l,(c9 l []).1,(c9 l []).2,())) noQ) [(0,.vl false 8 (l.map (be.val false))),(3,.vl false 8 (l.map (be.val false)))] (aw []):=by
 obtain ⟨A,hA⟩:∃ A,A=c9 l []:=⟨_,rfl⟩
 rw [← hA]
 unfold Try.f3
 simp only [↓wR,RA,simprocAttr,TF,ae,↓s6,↓sv,↓sw,↓tc,↓qo,↓qm,↓vo,↓u9,↓z5,vn,vk,vh,Eb,if_pos hg,← hA]
theorem am5 (l:List c6) (hg:mn l) (hm:Bx (c9 l []).1):wl PP [Ts,akb,B3,B6] 0 (ub 3 (lg 4 (Try.f3.body.getD .skip))) (Ao (fun L st=>(bc ca).gk true st.h (lk L 6)=some (c9 l []).1∧(bc ca).gk true st.h (lk L 8)=some (c9 l []).1) noQ) [(0,.vl false 8 (l.map (be.val false))),(3,.vl false 8 (l.map (be.val false))),(4,.vl false 5 ((c9 l []).1.map (ca.val false))),(5,.sc (.int .i64 (c9 l []).2))] (aw []):=by
 have hrm:=N9 hg
 obtain ⟨A,hA⟩:∃ A,A=c9 l []:=⟨_,rfl⟩
 rw [← hA] at hm ⊢
 unfold Try.f3
 simp only [↓wR,RA,simprocAttr,TF,ae,↓s6,↓sv,↓sw,↓tc,↓qo,↓qm,↓vo,↓u9,↓z5,vn,vk,vh,Eb,Hg,if_pos hg,← hA,uc,hm,tk,hrm,bne_self_eq_false,Fl]
theorem ahy (v:Value):opsL PP [] (Lf (sj 7 (Try.f3.body.getD .skip))) ((Lf (sj 7 (Try.f3.body.getD .skip))).toList.take 1) (fun L st=>lk L 56 = .sc v) [(4,.sc v)] (aw []):=by
 unfold Try.f3
 simp only [↓wR,RA,simprocAttr,TF,ae,↓s6,↓sv,↓sw,↓tc,↓qo,↓qm,↓vo,↓u9,↓z5,vn,vk,vh,List.take_succ_cons,List.take_zero]
theorem ai7 (l:List c6) (A:List bp) (hg:mn l) (hm:Bx A):wl PP [B3,B6] 0 (lg 8 (Try.f3.body.getD .skip)) (fun e L st=>e = .ret∧lk L 2 = .sc (.bool true)) [(0,.vl false 8 (l.map (be.val false))),(3,.vl false 8 (l.map (be.val false))),(6,.vl false 5 (A.map (ca.val false))),(8,.vl false 5 (A.map (ca.val false)))] (aw []):=by
 have hrm:=N9 hg
 unfold Try.f3
 simp only [↓wR,RA,simprocAttr,TF,ae,↓s6,↓sv,↓sw,↓tc,↓qo,↓qm,↓vo,↓u9,↓z5,vn,vk,vh,uc,hm,tk,hrm,Fl]
theorem agu:(dp PP Try.f3.results.toList (fun r st=>(r1 cz).get true st.h r=some true)) .ret [(2,.sc (.bool true))] (aw []):=by
 unfold Try.f3
 simp only [↓wR,RA,simprocAttr,TF,ae]
theorem ab5:aq PP [Ts]:=aq.cons (ar Md) (aq.nil PP)
theorem abm:aq PP [Ts,akb,B3,B6]:=aq.cons (ar Md) (aq.cons (ar ad3) (aq.cons (ar Dk) (aq.cons (ar Dt) (aq.nil PP))))
theorem aed:aq PP [B3,B6]:=aq.cons (ar Dk) (aq.cons (ar Dt) (aq.nil PP))
theorem apb {g:Gh} {w:World} {tmps:Array Value} {t:Nat} {x:Value} (h:tmps.getD t undef=x):Rel g w (.sc x) (tmps.getD t undef):=by rw [h];exact .sc _
set_option maxHeartbeats 4000000 in
theorem Za {B:da} (hnf:B.fq) (hp:B.aj=0) (hO:∀ b,¬ B.O b) (hn0:B.n0≤B.w.heap.size) {l:List c6} (hg:mn l) (hw8:dq g6 l≤8388608) {g:Gh} {ac:Act} {w:World}
 (hh:du B (66:Nat) (de 0 [(bc be).val false l]) (aw []) g ac w):((Try.f3.body.getD .skip)).wpIn (fk none) 0 PP (Fin B (66:Nat) (dp PP Try.f3.results.toList (fun r st=>(r1 cz).get true st.h r=some true))) ac w:=by
 refine Gz (aq.nil PP) (by kernel_rfl) hnf (by omega) hn0 (Q:=Ao (fun L st=>l.length≤60∧(aC (bc be) (aC (bc be) a0)).get st.h [lk L 0,lk L 3]=some (l,l,())) (dp PP Try.f3.results.toList (fun r st=>(r1 cz).get true st.h r=some true))) 2 (Try.f3.body.getD .skip) (by kernel_rfl) (by kernel_rfl) ?_ _ _ g ac w (by rw [hp];exact amp l hg) hh
 rintro e L1 dj g1 a1 w1 hq hh1
 cases e with
 |ret=>exact ⟨.ret,L1,dj,g1,rfl,hq,hh1.cur,hh1.sl,hh1.rn⟩
 |exit id=>exact hq.elim
 |normal=>
 obtain ⟨hl,dk⟩:=hq
 obtain ⟨hAm,hAl⟩:=afx hw8 hl
 have hr1:=hh1.read (aC (bc be) (aC (bc be) a0)) [0,3] dk
 have hnt1:=Qc [0,3] hh1.sl.1
 refine Gz ab5 (by kernel_rfl) (Fh w1 a1.defers) (Nat.zero_le _) (Nat.le_refl _) (nt:=z8 66 [0,3] a1.tmps) (Q:=Ao (fun L st=>(bc ca).gk true st.h (lk L 4)=some (c9 l []).1∧(aC (bc be) (aC (bc be) (aC (bc ca) (aC (b9 .i64) a0)))).get st.h [lk L 0,lk L 3,lk L 4,lk L 5]=some (l,l,(c9 l []).1,(c9 l []).2,())) noQ) 0 (lg 3 (Try.f3.body.getD .skip)) (by kernel_rfl) (Cq (x:=#[]) (by kernel_rfl)) ?_ _ _ _ a1 w1 (anb l hg) (Im hnt1 (ac4 hr1))
 rintro e L2 st2 g2 a2 w2 hq hh2
 cases e with
 |ret=>exact hq.elim
 |exit id=>exact hq.elim
 |normal=>
 obtain ⟨h4,hget2⟩:=hq
 have hv4:=hh2.ac1 (bc ca) true 4 h4
 have hr2:=hh2.read (aC (bc be) (aC (bc be) (aC (bc ca) (aC (b9 .i64) a0)))) [0,3,4,5] hget2
 have hnt2:=Qc [0,3,4,5] hh2.sl.1
 have hd4:lg (0+1) (lg 3 (Try.f3.body.getD .skip))=lg 4 (Try.f3.body.getD .skip):=by kernel_rfl
 rw [hd4]
 show (lg 4 (Try.f3.body.getD .skip)).wpIn (fk none) 0 PP _ a2 w2
 refine Gz abm (by kernel_rfl) (Fh w2 a2.defers) (Nat.zero_le _) (Nat.le_refl _) (nt:=z8 66 [0,3,4,5] a2.tmps) (Q:=Ao (fun L st=>(bc ca).gk true st.h (lk L 6)=some (c9 l []).1∧(bc ca).gk true st.h (lk L 8)=some (c9 l []).1) noQ) 2 (lg 4 (Try.f3.body.getD .skip)) (by kernel_rfl) (Cq (x:=#[]) (by kernel_rfl)) ?_ _ _ _ a2 w2 (am5 l hg hAm) (Im hnt2 (ac4 hr2))
 rintro e L3 st3 g3 a3 w3 hq hh3
 cases e with
 |ret=>exact hq.elim
 |exit id=>exact hq.elim
 |normal=>
 obtain ⟨h6,h8⟩:=hq
 have hv6:=hh3.ac1 (bc ca) true 6 h6
 have hv8:=hh3.ac1 (bc ca) true 8 h8
 have hs12:w1.heap.size≤w2.heap.size:=hh2.cur.base.size
 have hs23:w2.heap.size≤w3.heap.size:=hh3.cur.base.size
 obtain ⟨S,hS⟩:∃ S:Nat→Prop,S=fun b=>(w1.heap.size≤b∧b<w2.heap.size)∨w3.heap.size≤b:=⟨_,rfl⟩
 obtain ⟨K',hK⟩:∃ K':Nat→Nat→Prop,K'=fun b _=>b<w1.heap.size∨(w2.heap.size≤b∧b<w3.heap.size):=⟨_,rfl⟩
 have hSb:∀ b,S b↔(w1.heap.size≤b∧b<w2.heap.size)∨w3.heap.size≤b:=fun b=>by rw [hS]
 have hKb:∀ b j,K' b j↔b<w1.heap.size∨(w2.heap.size≤b∧b<w3.heap.size):=fun b j=>by rw [hK]
 have hS0:∀ b,b<w1.heap.size→¬ S b:=fun b h q=>by rcases (hSb b).1 q with q|q<;>omega
 have hKS:∀ b j,K' b j→b<w3.heap.size∧¬ S b:=fun b j h=>by
  rcases (hKb b j).1 h with h|h
  ·exact ⟨by omega,hS0 b h⟩
  ·exact ⟨h.2,fun q=>by rcases (hSb b).1 q with q|q<;>omega⟩
 have hK3:∀ b j,K' b j→b<w3.heap.size:=fun b j h=>(hKS b j h).1
 have hT4:mb S 60 w2 5 (La S 16777216 16777216 16777216) (a2.tmps.getD 4 undef):=ami (fun b h hk=>(hSb b).2 (.inl ⟨h,hk 0⟩)) hAm.2 hAl hv4
 have hM3:wq S w1 a1.defers a3.defers w3:=((wq.start S w1 a1.defers).later hh2).later hh3
 have e4:a3.tmps.getD 4 undef=a2.tmps.getD 4 undef:=aba hh3.sl.1 (by decide)
 have hT4':=Fa (by decide) (hh3.quiet S 0 true) hT4
 have hfix03:([0,3]).map (fun t=>a3.tmps.getD t undef)=([0,3]).map (fun t=>a1.tmps.getD t undef):=(Lb hh3.sl.1 (by decide)).trans (Lb hh2.sl.1 (by decide))
 have hlow:bb (gK w3.heap.size K') w3 [.vl false 8 ((l).map (be.val false)),.vl false 8 ((l).map (be.val false))] (([0,3]).map (fun t=>a3.tmps.getD t undef)):=by
  rw [hfix03]
  exact bb.ar1 hM3 hS0 (fun b j h=>(hKb b j).2 (.inl h)) hr1
 have hl6:Rel (gK w3.heap.size K') w3 ((bc ca).val false (c9 l []).1) (a3.tmps.getD 6 undef):=aar (bc ca) hs23 hK3 (fun b j hk h=>(hKb b j).2 (.inr ⟨h,hk⟩)) hv6
 have hl8:Rel (gK w3.heap.size K') w3 ((bc ca).val false (c9 l []).1) (a3.tmps.getD 8 undef):=aar (bc ca) hs23 hK3 (fun b j hk h=>(hKb b j).2 (.inr ⟨h,hk⟩)) hv8
 have hwin:bb (gK w3.heap.size K') w3 [.vl false 8 ((l).map (be.val false)),.vl false 8 ((l).map (be.val false)),.vl false 5 ((c9 l []).1.map (ca.val false)),.vl false 5 ((c9 l []).1.map (ca.val false))] (([0,3,6,8]:List Nat).map (fun t=>a3.tmps.getD t undef)):=by
  refine ⟨rfl,fun i x v hx hv=>?_⟩
  match i,hx,hv with
  |0,hx,hv=>exact hlow.2 0 x v hx hv
  |1,hx,hv=>exact hlow.2 1 x v hx hv
  |2,hx,hv=>cases hx;cases hv;exact hl6
  |3,hx,hv=>cases hx;cases hv;exact hl8
  |i+4,hx,hv=>cases hx
 have hnt3:=Qc [0,3,4,6,8] hh3.sl.1
 have hd7:lg (2+1) (lg 4 (Try.f3.body.getD .skip))=lg 7 (Try.f3.body.getD .skip):=by kernel_rfl
 rw [hd7]
 show (lg 7 (Try.f3.body.getD .skip)).wpIn (fk none) 0 PP _ a3 w3
 refine agz (aq.nil PP) (Fh w3 a3.defers) (nt:=z8 66 [0,3,4,6,8] a3.tmps) (n:=1) (by kernel_rfl) (by kernel_rfl) (Cq (x:=#[]) (by kernel_rfl)) (d:=some 57) (f:=10) (args:=[56]) (by kernel_rfl) (by kernel_rfl) (ahy (a2.tmps.getD 4 undef)) (Im hnt3 (ao6 (fun p hp=>by rw [List.mem_singleton] at hp;subst hp;exact apb e4))) ?_
 intro L5 st5 g5 a5 w5 h56 hh5
 have q5:=hh5.quiet S 0 true
 have hM5:=hM3.later hh5
 have hN5:wq S w3 a3.defers a5.defers w5:=(wq.start S w3 a3.defers).later hh5
 show Calls PP _ #[a5.tmps.getD 56 undef] w5 _
 rw [hh5.exact h56]
 refine (U4 (N:=60) (Nn:=16777216) (Nd:=16777216) (M:=16777216+0+0) (by decide) (by decide) (fun b hb=>(hSb b).2 (.inr (Nat.le_trans hN5.size hb))) (Fa (by decide) q5 hT4')).mono ?_
 rintro e w6 ⟨r6,rfl,ho6⟩
 refine ⟨r6,rfl,fun a6 hd6 hnt6 _=>?_⟩
 have hM6:wq S w1 a1.defers a6.defers w6:=by rw [hd6];exact hM5.tj ho6
 have hN6:wq S w3 a3.defers a6.defers w6:=by rw [hd6];exact hN5.tj ho6
 have hfix:([0,3,6,8]:List Nat).map (fun t=>a6.tmps.getD t undef)=([0,3,6,8]:List Nat).map (fun t=>a3.tmps.getD t undef):=Lb hnt6 (by decide)
 have hr6:=bb.win hN6 hKS hwin
 rw [← hfix] at hr6
 refine ahb aed (by kernel_rfl) (Fh w6 a6.defers) (Nat.zero_le _) (Nat.le_refl _) (nt:=z8 66 [0,3,4,6,8] a3.tmps) (Cq (x:=#[]) (by kernel_rfl)) ?_ (ai7 l _ hg hAm) (Im hnt6 (ac4 hr6))
 rintro e L7 st7 g7 a7 w7 ⟨rfl,h2⟩ hh7
 exact wq.fin hp hnf hn0 hh1 (hM6.later hh7) hS0 hO (aet hh7.sl.1 rfl) (hh7.exact h2) (e:=.ret) agu
noncomputable def Oe (x:List c6 × Unit):Option AV:=open Classical in if mn x.1∧dq g6 x.1≤8388608 then some ((r1 cz).E true true) else none
set_option maxRecDepth 2000000 in
theorem abu (x:List c6 × Unit) (r:AV) (h:Oe x=some r):bw PP 3 ((aC (bc be) a0).E x) r:=by
 by_cases hc:mn x.1∧dq g6 x.1≤8388608
 case neg=>simp only [Oe,if_neg hc] at h;cases h
 simp only [Oe,if_pos hc] at h
 cases h
 exact u4 (body:=(Try.f3.body.getD .skip)) Try.func3 (by kernel_rfl) (by kernel_rfl) (Nat.le_of_ble_eq_true (by kernel_rfl)) (r1 cz) true true (fun B g a w hnf hp hO hn0 hh=>Za hnf hp hO hn0 hc.1 hc.2 hh)
end Go.Proofs.Ytgencolcibpcaaa
end
section
namespace Go.Proofs.Ytgencolcibpcaaa
open Go.Vm
set_option maxRecDepth 2000000
noncomputable section
def muP {α β:Type} (μ : α→Nat) (ν : β→Nat) (p : α × β):Nat:=μ p.1 + ν p.2
def Af {α:Type} (μ : α→Nat) (l:List α):Nat:=nm μ l+1
def L9 {α:Type} (_ : α):Nat:=1
def muI {α β:Type} (f : β → α) (μ : α→Nat) (y : β):Nat:=μ (f y)+1
def P4 (P:Program) (t:TypeId):List Field:=match P.underlying t with|some (.struct fs)=>fs.toList|_=>[]
def aor (l:List Field):Nat:=match l with|f::_=>f.offset | []=>0
def tyH (l:List Field):TypeId:=match l with|f::_=>f.type | []=>0
def alc (l:List Field):Bool:=match l with|_::_=>true | []=>false
def ar5 (l:List Field):Bool:=match l with | [_]=>true|_=>false
theorem Vx {P:Program} {l:List Field} {off:Nat} {t:TypeId} {α:Type} {C:db α} {μ : α→Nat} (hl:ar5 l=true) (ho:aor l=off) (ht:tyH l=t) (hs:P.cellsOf t=C.sz) (h:Rd P t C μ):Qr P l off C μ:=by
 match l,hl with
 | [f],_=>subst ht;exact fun {H}=>al1 ho hs h
theorem tg {P:Program} {l:List Field} {off:Nat} {t:TypeId} {α β:Type} {A:db α} {B:db β} {μ : α→Nat} {ν : β→Nat} (hl:alc l=true) (ho:aor l=off) (ht:tyH l=t) (hs:P.cellsOf t=A.sz) (h:Rd P t A μ) (hr:Qr P l.tail (off+A.sz) B ν):Qr P l off (jz A B) (muP μ ν):=by
 match l,hl with
 |f::fs,_=>subst ht;exact fun {H}=>aif ho hs h hr
theorem Nv {P:Program} {t:TypeId} {α β:Type} {C:db α} {μ : α→Nat} {f : β → α} {i : α → β} {h1:∀ y,i (f y)=y} {h2:∀ x,f (i x)=x} (ht:alc (P4 P t)=true) (hc:P.cellsOf t=C.sz) (h:Qr P (P4 P t) 0 C μ):Rd P t (Bn C f i h1 h2) (muI f μ):=by
 unfold P4 at ht h
 cases hu:P.underlying t with
 |none=>rw [hu] at ht;cases ht
 |some d=>
  rw [hu] at ht h
  cases d with
  |struct fs=>exact fun {H}=>apt (afp hu hc h)
  |_=>cases ht
theorem ym {P:Program} {t e:TypeId} {α:Type} {C:db α} {μ : α→Nat} (ht:P.underlying t=some (.slice e)) (hsz:P.cellsOf e=C.sz) (hpos : 0<C.sz) (he:Rd P e C μ):Rd P t (bc C) (Af μ):=als ht hsz hpos he
def Iy (s:ByteArray):Nat:=s.size+1
theorem rdS:Rd PP 9 ai Iy:=apg (by kernel_rfl)
def qh:Name→Nat:=Af Iy
theorem ag4:Rd PP 35 ak qh:=ym (e:=9) (by kernel_rfl) (by kernel_rfl) (by decide) rdS
theorem amf:Rd PP 34 ak qh:=ym (e:=9) (by kernel_rfl) (by kernel_rfl) (by decide) rdS
theorem ana:Rd PP 43 (bc ak) (Af qh):=ym (e:=35) (by kernel_rfl) (by kernel_rfl) (by decide) ag4
theorem aph:Rd PP 44 (bc bo) (Af L9):=ym (e:=39) (by kernel_rfl) (by kernel_rfl) (by decide) (afl (by kernel_rfl))
theorem aq3:Rd PP 45 (bc ay) (Af L9):=ym (e:=5) (by kernel_rfl) (by kernel_rfl) (by decide) (arf (by kernel_rfl))
def Og (d:a9):Nat:=Af qh d.names+(Af L9 d.nums+(qh d.texts+Af L9 d.raw))+1
theorem apo:Rd PP 47 ag Og:=
 Nv (by kernel_rfl) (by kernel_rfl) (tg (by kernel_rfl) (by kernel_rfl) (by kernel_rfl) (by kernel_rfl) ana (tg (by kernel_rfl) (by kernel_rfl) (by kernel_rfl) (by kernel_rfl) aph (tg (by kernel_rfl) (by kernel_rfl) (by kernel_rfl) (by kernel_rfl) amf (Vx (by kernel_rfl) (by kernel_rfl) (by kernel_rfl) (by kernel_rfl) aq3))))
theorem aoz:Rd PP 37 cb L9:=agb (by kernel_rfl)
theorem al4:Rd PP 38 cb L9:=agb (by kernel_rfl)
theorem aqy:Rd PP 39 bo L9:=afl (by kernel_rfl)
theorem aa0 (n:Name):bg n=qh n:=by
 suffices h:∀ (n:Name) (k:Nat),n.foldl (fun k s=>k+(s.size+1)) k=k+nm Iy n by
  have:=h n 1;simp only [bg,qh,Af];omega
 intro n
 induction n with
 |nil=>intro k;rfl
 |cons a n ih=>intro k;rw [List.foldl_cons,ih];simp only [nm,Iy];omega
theorem Pq {α:Type} {f μ : α→Nat} {c:Nat} {l:List α} (h:∀ x,f x+1≤c * μ x):dq f l≤c * nm μ l:=by
 induction l with
 |nil=>simp [dq,nm]
 |cons a l ih=>
  have:=h a
  simp only [dq,List.foldr_cons,nm,Nat.mul_add] at ih ⊢
  omega
theorem aa8 {α:Type} (l:List α):nm L9 l=l.length:=by
 induction l with
 |nil=>rfl
 |cons a l ih=>simp only [nm,ih,L9,List.length_cons];omega
theorem alh (d:a9):j4 d+1≤3 * Og d:=by
 have h1:=Pq (f:=bg) (μ:=qh) (c:=2) (l:=d.names) (fun n=>by rw [aa0];simp only [qh,Af];omega)
 have h2:=Pq (f:=ByteArray.size) (μ:=Iy) (c:=1) (l:=d.texts) (fun n=>by unfold Iy;omega)
 have h3:=aa8 d.nums
 have h4:=aa8 d.raw
 simp only [j4,Og,qh,Af] at *
 omega
theorem ads {n:Name} (h:qh n≤1048576):cf n:=by unfold cf;rw [aa0];omega
def ss (r:c6):Nat:=qh r.owner+(1+(1+(1+Og r.data)))+1
theorem ard:Rd PP 66 be ss:=
 Nv (by kernel_rfl) (by kernel_rfl) (tg (by kernel_rfl) (by kernel_rfl) (by kernel_rfl) (by kernel_rfl) ag4 (tg (by kernel_rfl) (by kernel_rfl) (by kernel_rfl) (by kernel_rfl) aoz (tg (by kernel_rfl) (by kernel_rfl) (by kernel_rfl) (by kernel_rfl) al4 (tg (by kernel_rfl) (by kernel_rfl) (by kernel_rfl) (by kernel_rfl) aqy (Vx (by kernel_rfl) (by kernel_rfl) (by kernel_rfl) (by kernel_rfl) apo)))))
theorem ap1:Rd PP 22 (bc be) (Af ss):=ym (e:=66) (by kernel_rfl) (by kernel_rfl) (by decide) ard
abbrev Zo:db (List c6):=bc be
abbrev ahh:List c6→Nat:=Af ss
theorem amy (l:List c6):dq g6 l≤3 * nm ss l:=Pq (c:=3) (fun r=>by
 have h1:=alh r.data
 simp only [g6,ss]
 omega)
theorem aeh {l:List c6} (h:Af ss l≤1048576):mn l∧dq g6 l≤8388608:=by
 have h1:=amy l
 have h2:∀ (m:List c6),m.length≤nm ss m∧∀ r ∈ m,ss r≤nm ss m:=fun m=>by
  induction m with
  |nil=>exact ⟨Nat.le_refl _,fun r hr=>(by cases hr)⟩
  |cons a m ih=>
   simp only [nm,List.length_cons]
   have : 1≤ss a:=by unfold ss;omega
   refine ⟨by omega,fun r hr=>?_⟩
   rcases List.mem_cons.1 hr with rfl|hr
   ·omega
   ·have:=ih.2 r hr;omega
 simp only [Af] at h
 refine ⟨⟨fun r hr=>?_,by omega,by have:=(h2 l).1;omega⟩,by omega⟩
 have h3:=(h2 l).2 r hr
 refine ads ?_
 have h4:qh r.owner≤ss r:=by unfold ss;omega
 omega
end
end Go.Proofs.Ytgencolcibpcaaa
end
section
namespace Go.Proofs.Ytgencolcibpcaaa
open Go.Vm Go.ChangeShapes Go.WideShapes Go.ChangeAt
mutual
theorem N4 {H:Type}:∀ d:DataW H,Rows.uptoBulk d=ld d
 |.lit l=>by cases l<;>simp only [Rows.uptoBulk,ld]
 |.nil=>by simp only [Rows.uptoBulk,ld]
 |.ptr d=>by simp only [Rows.uptoBulk,ld,N4 d]
 |.slice a b=>by simp only [Rows.uptoBulk,ld,Gy a,Gy b]
 |.agg a=>by simp only [Rows.uptoBulk,ld,Gy a]
 |.iface _ d=>by simp only [Rows.uptoBulk,ld,N4 d]
 |.map e=>by simp only [Rows.uptoBulk,ld,aeg e]
 |.held _=>by simp only [Rows.uptoBulk,ld]
theorem Gy {H:Type}:∀ l:List (DataW H),Rows.uptoBulkAll l=ma l
 | []=>by simp only [Rows.uptoBulkAll,ma]
 |d::r=>by simp only [Rows.uptoBulkAll,ma,N4 d,Gy r]
theorem aeg {H:Type}:∀ l:List (Lit × DataW H),Rows.uptoBulkEntries l=N6 l
 | []=>by simp only [Rows.uptoBulkEntries,N6]
 |x::r=>by simp only [Rows.uptoBulkEntries,N6,ao7 x,aeg r]
theorem ao7 {H:Type}:∀ x:Lit × DataW H,Rows.uptoBulkEntry x=abo x
 |(l,d)=>by cases l<;>simp only [Rows.uptoBulkEntry,abo,N4 d]
end
theorem afo {H:Type} {l:List (DataW H)} (h:Rows.uptoSmall H l=true):ma l≤1048576:=by
 have:=of_decide_eq_true h
 rwa [Gy] at this
theorem ac0 {H:Type} {enc:TypeId × Value→H} {C:Checked} {os:Os} {f:FuncId} {fn:Func} {s:OpenSpec} {k:(H:Type)→List (DataW H)→Bool} (hk:s.cond=some k) {conds:List PathCond} {apart:Bool} (modest:Bool) (i:Input) (fuel:Nat)
 (hv:(World.plainHolding C.prog os i).variablesB C.prog=true)
 (hr:((World.plainHolding C.prog os i).heap.toList.drop C.prog.globals.size).take ((begin C.prog (fun _ _=>0) default).world.heap.size - C.prog.globals.size) =
  (begin C.prog (fun _ _=>0) default).world.heap.toList.drop C.prog.globals.size)
 (hok:Input.okWideB C.prog (World.plainHolding C.prog os i) f ⟨#[],i.args,[]⟩=true)
 (hx:(match DataW.whole enc C.prog (World.plainHolding C.prog os i).memory fn.params.toList s.vars apart i.args.toList fuel with
  |some x=>conds.all (PathCond.test C.prog ⟨fn.params.toList,x.1,s.bare.plain.varTypes C.prog,x.2.1⟩) && k H (x.1++x.2.1)
  |none=>false)=true)
 (hsz:s.bare.sizedB enc C.prog fn apart (World.plainHolding C.prog os i).memory i.args fuel=true) :
 ∃ (w:World) (tape:Tape) (i:Input),w.os=os∧(w.forCall tape i).Shaped C.prog∧i.vars=[]∧Input.okWide C.prog (w.forCall tape i) .any w.heap.size f i ∧
  s.pre6 enc C.prog fn conds apart (w.forCall tape i).memory i.args∧({ modest:=modest }:Assume).holds C.prog (lone (Frame.enter C.prog f i.args .normal) [] (w.forCall tape i)):=by
 cases hd:DataW.whole enc C.prog (World.plainHolding C.prog os i).memory fn.params.toList s.vars apart i.args.toList fuel with
 |none=>rw [hd] at hx;cases hx
 |some x=>
  rw [hd] at hx
  simp only [Bool.and_eq_true] at hx
  exact OpenSpec.witness hk modest i fuel hv hr hok hd hx.1 hx.2 hsz
end Go.Proofs.Ytgencolcibpcaaa
end
section
set_option maxRecDepth 2000000
namespace Go.Proofs.Ytgencolcibpcaaa.setMakes
open Go.Vm Go.ChangeShapes Go.WideShapes Go.ChangeAt
theorem ahz (x:List c6 × Unit) (h:(ahh x.1+0)≤1048576):bw PP 3 ((aC Zo a0).E x) (.sc (.bool true)):=
 abu x _ (by unfold Oe;exact if_pos (aeh (by have h3:Af ss x.1=ahh x.1:=rfl;omega)))
theorem own:ownKnob PP.godebug=none:=by kernel_rfl
theorem amr:PP.underlying 4=some .bool:=by kernel_rfl
theorem lifted (os:Os) (started:os.Started) (H:Type) (enc:TypeId × Value→H) (F:Stop.Interp) :
 ReturnsInHanded {} Try.checked os 3 .any ((Rows.OpenSpec.upto Rows.setMakesSpec).pre6 enc Try.prog Try.f3 Rows.setMakesUptoRow.domain false) (((Rows.OpenSpec.upto Rows.setMakesSpec).at F).post enc Try.prog Try.f3 false true false false):=by
 refine returnsInHanded_of_cond (C:=Try.checked) (k:=Rows.uptoSmall) rfl own started (by kernel_rfl) Try.func3
  (ac0 (enc:=enc) (C:=Try.checked) rfl false ⟨#[],Try.f3.params.map fun t=>((PP.info? t).bind (·.zero)).getD undef,[]⟩ 8 (by kernel_rfl) (by kernel_rfl) (by kernel_rfl) (by kernel_rfl) (by kernel_rfl)) ?_
 intro W base args ds gs before hval hW _ hk _
 exact aj0 (by kernel_rfl) (by kernel_rfl) (Tc (by kernel_rfl)) (tb:=4) (by kernel_rfl) rfl (by kernel_rfl) amr (abg (by kernel_rfl))
  (fun H ds hl=>by match ds,(show ds.length=1 from hl) with | [_],_=>rfl) (A:=(aC Zo a0)) (ai3 (by kernel_rfl) ap1 (am6 PP)) (N:=some 1048576) (fun x hx=>ahz x (hx _ rfl)) enc W base args ds gs before hval hW (fun n hn=>by cases hn;exact afo hk)
theorem over:Rows.setMakesUptoRow.holds Try.pinned (Rows.OpenSpec.upto Rows.setMakesSpec):=
 OpenClaim.holds_of_cond 3 Try.f3 rfl rfl rfl rfl rfl rfl rfl ⟨rfl,rfl,rfl,rfl,rfl⟩ rfl rfl rfl rfl rfl (by kernel_rfl) Try.func3 (by kernel_rfl)
  (of_decide_eq_true (by kernel_rfl)) (by unfold Func.isWrapper;first|(rw [if_pos (by decide +kernel)];kernel_rfl)|(rw [if_neg (by decide +kernel)];exact ⟨rfl,rfl⟩))
  (fun os started H enc _ F=>lifted os started H enc F)
theorem proved : Rows.SetMakesUptoSaid := over
end Go.Proofs.Ytgencolcibpcaaa.setMakes
end
