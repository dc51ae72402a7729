/- Proved: where the arguments are together of bulk at most 1048576, the law AnswerSteps returns true (what one step of an answer comes to), and what it was given reads afterwards as it did before. No other conditions. -/
import Derived.Test.YtgencolcibpcaaaGreatProg
import Derived.Test.YtgencolcibpcaaaGreatRows
import Derived.Test.YtgencolcibpcaaaGreatQ5
set_option linter.unusedSimpArgs false
set_option linter.unusedVariables false
set_option linter.unusedSectionVars false
set_option maxRecDepth 2000000
section
namespace Go.Proofs.YtgencolcibpcaaaGreat
open Go.Vm Go.RowKit
theorem awx:Tryz.f40.ntmps=26:=rfl
theorem awe {K:Nat->Nat->Prop} {w w':World} {l:List AV} {vs:List Value} (hK:∀ b j,K b j->b<w.heap.size) (hh:∀ b,b<w.heap.size->w'.heap[b]? = w.heap[b]?) (h:bt (gK w.heap.size K) w l vs):bt (gK w'.heap.size K) w' l vs:=
 h.apn (fun b h1 h2=>absurd (hK b 0 (h2 0)) (Nat.not_lt.2 h1)) (fun _ _ h=>h) (fun b j hk=>hh b (hK b j hk))
theorem Ek (w:World) (o:Obj):∀ b,b<w.heap.size->(w.alloc o).heap[b]? = w.heap[b]? := fun b hb=>(gp.alloc o:gp (fun _=>False) 0 false w (w.alloc o)).low b hb (fun h=>h)
theorem ain {cs:Array Value} (h:cs.size=2):∃ a b,cs = #[a,b]:=by obtain ⟨a,b,e⟩:=aB6 h;exact ⟨a,b,by rw [<- Array.toArray_toList (xs:=cs),e]⟩
theorem axr {g:Gh} {w:World} {a b:AV} {v:Value} (h:Rel g w (.gn [a,b]) v):∃ x y,v = .tuple #[x,y]/\Rel g w a x/\Rel g w b y:=by
 cases h with
 |gn _ us hs hel=>
  obtain ⟨x,y,rfl⟩:=ain (cs:=us) hs;exact ⟨x,y,rfl,hel 0 _ _ rfl rfl,hel 1 _ _ rfl rfl⟩
theorem ayv {g:Gh} {w:World} {a b c:AV} {v:Value} (h:Rel g w (.agg [a,b,c]) v):∃ x y q,v = .agg #[x,y,q]/\Rel g w a x/\Rel g w b y/\Rel g w c q:=by
 cases h with
 |agg _ us hs hel=>
  obtain ⟨x,y,q,e⟩:=anb (cs:=us) hs;have e2:us = #[x,y,q]:=by rw [<- Array.toArray_toList (xs:=us),e]
  subst e2;exact ⟨x,y,q,rfl,hel 0 _ _ rfl rfl,hel 1 _ _ rfl rfl,hel 2 _ _ rfl rfl⟩
theorem Jb {g:Gh} {w:World} {l:Bool} {sz:Nat} {es:List AV} {v:Value} (h:Rel g w (.vl l sz es) v):∃ a n c,v = .slice a n c:=by
 cases h with
 |vl _ _ _ b off cap=>exact ⟨_,_,_,rfl⟩
 |jy=>exact ⟨_,_,_,rfl⟩
 |tv=>exact ⟨_,_,_,rfl⟩
theorem A3 {w u v:World} (h:k5 w u) (k:k5 u v):k5 w v:=
 ⟨zzu h.size k.size,fun b hb=>(k.heap b (zyc hb h.size)).trans (h.heap b hb),k.os.trans h.os,k.tape.trans h.tape,k.output.trans h.output⟩
theorem Rh (w:World) (o:Obj):k5 w (w.alloc o):=
 ⟨by simp,Ek w o,rfl,rfl,rfl⟩
theorem Am {w u:World} (h:k5 w u) {b:Nat} (hb:w.heap.size<=b) (j:Nat) (v:Value):k5 w (u.setCell ⟨b,j,none⟩ v):=
 ⟨by have:=h.size;simpa [World.setCell] using this,fun c hc=>(lg u j v zO).trans (h.heap c hc),h.os,h.tape,h.output⟩
theorem axx {w u0 u uf:World} {K K4:Nat->Nat->Prop} {x:th} {va vb:Value} {b:Nat} (h:Fv u0 u K4 x va vb) (hu:u0.heap.size<=u.heap.size) (hw:w.heap.size<=u0.heap.size) (hb:b<u0.heap.size)
 (hK:∀ c j,K4 c j->c≠b/\c<u0.heap.size/\(K c j\/w.heap.size<=c)) (hs:uf.heap.size=u.heap.size) (hf:∀ c,c≠b->uf.heap[c]? = u.heap[c]?):Fv w uf K x va vb:=by
 obtain ⟨K1,K2,a1,a2,a3,a4,a5⟩:=h;have n1:∀ c j,K1 c j->c≠b/\c<uf.heap.size/\(K c j\/w.heap.size<=c):=fun c j hc=>by
  rcases a1 c j hc with h|h
  ·obtain ⟨q1,q2,q3⟩:=hK c j h;exact ⟨q1,zO,q3⟩
  ·exact ⟨zO,zO,.inr zO⟩
 refine ⟨K1,K2,fun c j hc=>?_,fun c j hc=>?_,a3,?_,?_⟩
 ·obtain ⟨q1,q2,q3⟩:=n1 c j hc;exact q3.imp id (fun h=>⟨h,q2⟩)
 ·obtain ⟨q1,q2⟩:=a2 c j hc;exact ⟨zO,zO⟩
 ·exact a4.stay (fun c h1 _=>by omega) (fun _ _ h=>h) (fun c j hc=>hf c (n1 c j hc).1)
 ·exact a5.stay (fun c h1 _=>by omega) (fun _ _ h=>h) (fun c j hc=>hf c (by have:=a2 c j hc;omega))
theorem awv (w u:World) (K:Nat->Nat->Prop):Fv w u K (sd 0 [] []) (.slice none 0 0) (.slice none 0 0):=
 ⟨fun _ _=>False,fun _ _=>False,fun _ _ h=>h.elim,fun _ _ h=>h.elim,fun _ _ _ h=>h.elim,.jy _ _,.jy _ _⟩
set_option maxHeartbeats 3200000 in
theorem aqk {z:au} {n:Name} {t:UInt16} (hz:bj z) (hn:ay n) {K:Nat->Nat->Prop} {w:World} {vo vs vn:Value} (hK:∀ b j,K b j->b<w.heap.size)
 (hrel:bt (gK w.heap.size K) w [be.val false z,ak.val false n,cf.val false t] [.agg #[vo,vs],vn,.int .u16 t.toNat]) :
 Calls PP 40 #[.agg #[vo,vs],vn,.int .u16 t.toNat] w (fun e w'=>∃ va vb,e = .returned (.tuple #[.agg #[.int .u8 (uv z n t).1.turn,va,vb],.int .i64 (uv z n t).2])/\k5 w w'/\Fv w w' K (uv z n t).1 va vb):=by
 go_enter Tryz.func40,awx
 go_wp2
 have hl2:∀ b,b<w.heap.size->((w.alloc (.cells #[vo,vs] 41)).alloc (.cells #[.int .u8 0,.slice none 0 0,.slice none 0 0] 66)).heap[b]? = w.heap[b]? := fun b hb=>(Ek _ _ b (by simp;omega)).trans (Ek _ _ b hb)
 obtain ⟨W2,hW2⟩:∃ W2,W2=(w.alloc (.cells #[vo,vs] 41)).alloc (.cells #[.int .u8 0,.slice none 0 0,.slice none 0 0] 66):=⟨_,rfl⟩;have hs2:w.heap.size+2=W2.heap.size:=by rw [hW2];simp
 rw [<- hW2] at hl2 ⊢;have hK2:∀ b j,K b j->b<W2.heap.size:=fun b j h=>by have:=hK b j h;omega
 have iK:=awe hK hl2 hrel;have hp:=aka (z,n,t,()) _ (if_pos ⟨hz,hn⟩);refine (hp.calls zK (K:=K) (w:=W2) hK2 (vs:=[.agg #[vo,vs],vn,.int .u16 t.toNat]) iK).mono ?_;rintro e W3 ⟨v,rfl,q3,hr3⟩;obtain ⟨s,kX,dL⟩:∃ s kX,pd z n t=(s,kX):=⟨_,_,rfl⟩;obtain ⟨sp,er,rfl,hsp,her⟩:=axr hr3;rw [show pd (z,n,t,()).1 (z,n,t,()).2.1 (z,n,t,()).2.2.1=(s,kX) from dL] at hsp her;have her:=her.exact rfl;have lQ:=hsp;rw [Dy] at lQ;obtain ⟨k,nd,cl,rfl,hk,bR,hcl⟩:=ayv lQ;have hk:=hk.exact rfl;subst hk her;obtain ⟨nW,nU,nV,rfl⟩:=Jb bR;obtain ⟨pE,pC,pD,rfl⟩:=Jb hcl;have hb0:W3.heap[w.heap.size]? = some (.cells #[vo,vs] 41 (0,0)):=by rw [q3.heap _ zO,hW2,Ek _ _ _ (by simp)];exact z9 _ _
 have hb1:W3.heap[w.heap.size+1]? = some (.cells #[.int .u8 0,.slice none 0 0,.slice none 0 0] 66 (0,0)):=by rw [q3.heap _ zO,hW2];have:=z9 (w.alloc (.cells #[vo,vs] 41)) (.cells #[.int .u8 0,.slice none 0 0,.slice none 0 0] 66 (0,0));simpa using this
 have m0:=fun o=>qn hb0 o (j:=0) (by simp)
 have m1:=fun o=>qn hb0 o (j:=1) (by simp)
 have p0:=fun o=>qn hb1 o (j:=0) (by simp)
 have p1:=fun o=>qn hb1 o (j:=1) (by simp)
 have p2:=fun o=>qn hb1 o (j:=2) (by simp)
 have hfz:=Oc hb1;by_cases he:kX=0
 ·have he':(pd z n t).2=0:=by rw [dL];exact he
  obtain ⟨h1,h2,h3,h4⟩:=abu he';obtain ⟨a1,a2,a3⟩:=u1 h1;have pZ:s=(ic z n).1:=by rw [<- h4,dL]
  have bM:uv z n t=(rz z n t s,0):=by unfold uv;rw [if_neg zO,pZ]
  have gD:ay s.node:=by rw [pZ];exact abm hz hn
  subst he;clear dL he' h4 hr3 pZ
  go_wp2
  obtain ⟨W4,oV⟩:∃ W4,W4=W3.alloc (.cells #[.int .u8 s.kind,.slice nW nU nV,.slice pE pC pD] 126):=⟨_,rfl⟩;have tE:W4.heap.size=W3.heap.size+1:=by rw [oV];simp
  have hl4:∀ b,b<W3.heap.size->W4.heap[b]? = W3.heap[b]? := fun b hb=>by rw [oV];exact Ek _ _ b hb
  have m0:=m0 (.cells #[.int .u8 s.kind,.slice nW nU nV,.slice pE pC pD] 126);have nE:W4.heap[w.heap.size+1]? = some (.cells #[.int .u8 0,.slice none 0 0,.slice none 0 0] 66 (0,0)):=(hl4 _ (by have:=q3.size;omega)).trans hb1;clear m0 m1 p0 p1 p2 hfz;rw [<- oV];have q4:k5 W2 W4:=by rw [oV];exact A3 q3 (Rh _ _)
  have hK4:∀ b j,v9 K W2 W3 b j->b<W4.heap.size:=fun b j hk=>by
   rcases hk with h|h
   ·have:=hK2 b j h;have:=q4.size;omega
   ·omega
  refine (ap6 (t:=t) hz hn a1 gD (K:=v9 K W2 W3) (w:=W4) hK4 (vs:=[.agg #[vo,vs],vn,.int .u16 t.toNat,.agg #[.int .u8 s.kind,.slice nW nU nV,.slice pE pC pD]]) ?_).mono ?_
  ·have kK:∀ b j,v9 K W2 W3 b j->b<W3.heap.size:=fun b j hk=>hk.elim (fun h=>by have:=hK2 b j h;have:=q3.size;omega) (fun h=>h.2)
   have hs1:bt (gK W4.heap.size (v9 K W2 W3)) W4 [be.val false z,ak.val false n,cf.val false t] [.agg #[vo,vs],vn,.int .u16 t.toNat]:=
    iK.apn (fun b h1 h2=>absurd (hK2 b 0 (h2 0)) (Nat.not_lt.2 h1)) (fun _ _ h=>.inl h) (fun b j hk=>q4.heap b (hK2 b j hk))
   have hs2:Rel (gK W4.heap.size (v9 K W2 W3)) W4 (m8.val false s) (.agg #[.int .u8 s.kind,.slice nW nU nV,.slice pE pC pD]):=
    (Qv m8 (b1:=W3.heap.size) (K':=v9 K W2 W3) q3.size kK (fun _ _ h _=>h) hsp).stay (fun b h1 h2=>absurd (kK b 0 (h2 0)) (Nat.not_lt.2 h1)) (fun _ _ h=>h) (fun b j hk=>hl4 b (kK b j hk))
   exact hs1.append (.one hs2)
  rintro e W5 ⟨v,rfl,q5,va,vb,rfl,eW⟩;obtain ⟨vF,vD,vE,rfl⟩:∃ a n c,va = .slice a n c:=by obtain ⟨_,_,_,_,_,h,_⟩:=eW;rw [show (br ai).val true (rz z n t s).aj=_ from j5 _ _ _] at h;exact Jb h
  obtain ⟨vC,vA,vB,rfl⟩:∃ a n c,vb = .slice a n c:=by obtain ⟨_,_,_,_,_,_,h⟩:=eW;rw [bw] at h;exact Jb h
  have gS:W5.heap[w.heap.size+1]? = some (.cells #[.int .u8 0,.slice none 0 0,.slice none 0 0] 66 (0,0)):=(q5.heap _ (by have:=q4.size;omega)).trans nE;have p0:=cell_of gS (j:=0) (by simp);have p1:=cell_of gS (j:=1) (by simp);have p2:=cell_of gS (j:=2) (by simp);have hfz:=H4 gS
  go_wp2
  refine bodyPost_ret (v:=.tuple #[.agg #[.int .u8 (rz z n t s).turn,.slice vF vD vE,.slice vC vA vB],.int .i64 0]) (by simp [results,Tryz.results40,go_sem,p0,p1,p2,hfz]) rfl ?_;refine ⟨_,_,by rw [bM],?_,?_⟩
  ·exact Am (Am (Am (A3 ⟨zO,hl2,by rw [hW2];rfl,by rw [hW2];rfl,by rw [hW2];rfl⟩ (A3 q4 q5)) zO _ _) zO _ _) zO _ _
  ·rw [bM];have:=q3.size;refine axx (b:=w.heap.size+1) eW q5.size zO zO (fun c j hk=>?_) (by simp [World.setCell]) (fun c hc=>?_)
   ·rcases hk with h|h
    ·have:=hK c j h;exact ⟨zO,zO,.inl h⟩
    ·exact ⟨zO,zO,.inr zO⟩
   ·rw [lg _ _ _ hc,lg _ _ _ hc,lg _ _ _ hc]
 ·have bM:uv z n t=(sd 0 [] [],kX):=by unfold uv;rw [if_pos (by rw [dL];exact he),dL]
  clear dL
  go_wp2
  refine bodyPost_ret (v:=.tuple #[.agg #[.int .u8 0,.slice none 0 0,.slice none 0 0],.int .i64 kX]) (by simp [results,Tryz.results40,go_sem,p0,p1,p2,hfz]) rfl ?_;refine ⟨_,_,by rw [bM];rfl,?_,?_⟩
  ·exact Am (Am (Am (A3 ⟨zO,hl2,by rw [hW2];rfl,by rw [hW2];rfl,by rw [hW2];rfl⟩ (A3 q3 (Rh _ _))) zO _ _) zO _ _) zO _ _
  ·rw [bM];exact awv _ _ _
end Go.Proofs.YtgencolcibpcaaaGreat
end
section
namespace Go.Proofs.YtgencolcibpcaaaGreat
open Go.Vm
theorem as1 {S S':Nat->Prop} {m:Nat} {xx:Bool} {w:World} {e:TypeId} {j:Nat} {x y:Value} (hS:∀ b,S b->S' b) (h:Kept S m xx w e j x y):Kept S' m xx w e j x y:=by
 rcases h with h|h|⟨h1,h2⟩
 ·exact .inl h
 ·exact .inr (.inl h)
 ·exact .inr (.inr ⟨h1,h2.imp id (fun q=>⟨q.1,q.2.wide hS⟩)⟩)
theorem ag8 {S S':Nat->Prop} {m:Nat} {xx:Bool} {w w':World} (hS:∀ b,S b->S' b) (h:gp S m xx w w'):gp S' m xx w w':=
 ⟨h.size,h.os,h.tape,h.output,fun b hb hn=>h.low b hb (fun q=>hn (hS b q)),h.obj,fun b cs e fr hb=>by obtain ⟨cs',q1,q2,q3⟩:=h.cells b cs e fr hb;exact ⟨cs',q1,q2,fun j x x' hx hx'=>as1 hS (q3 j x x' hx hx')⟩⟩
structure Y8 (p:th):Prop where
 set:∀ s ∈ p.aj,dh s
 len:p.aj.length<=40
 to:ay p.to
theorem Y8.mid {p:th} (h:Y8 p):se p.aj:=⟨zzu h.len (by decide),h.set⟩
theorem azb {z:au} {n:Name} {t:UInt16} (hw:gh nl z.aj<=8388608) (hz:bj z) (hf:z.aj.length<=40/\∀ x ∈ z.aj,x.data.length<=20):Y8 (uv z n t).1:=by
 have none:∀ k,Y8 (sd k [] []):=fun k=>⟨fun s hs=>(by cases hs),zzb _,by show bp []<=_;decide⟩
 unfold uv
 split
 ·exact none _
 ·rename_i h;have h1:=abu (by omega:(pd z n t).2=0);have kR:=vp (u1 h1.1).2.1;rcases aBy t h1.1 with ⟨c,s,hc,hs,ht,ho,e⟩|⟨hc,e⟩|⟨hc,e⟩|⟨hc,l,hne,bB,AO,kA,e⟩|⟨hc,s,d,m,ht,h5,rZ,ho,tI,hd,hm,xL,hy,e⟩
  ·rw [e];exact ⟨fun x hx=>by rw [zz0.1 hx];exact hz.set s hs,by show ([s]:List az).length<=_;rw [zyg];decide,(none 0).to⟩
  ·rw [e];exact none _
  ·rw [e];exact none _
  ·rw [e];refine ⟨fun s hs=>?_,zzu bB hf.1,(none 0).to⟩;obtain ⟨_,p2,_,y,hy,gA,_⟩:=kA s hs;exact aae (Uj hw hy) (p2.imp id (Uj hw)) gA zO
  ·rw [e];obtain ⟨y,vV,gA,_⟩:=hy;refine ⟨fun x hx=>?_,by show ([s]:List az).length<=_;rw [zyg];decide,?_⟩
   ·rw [zz0.1 hx];exact aae (Uj hw vV) (tI.imp id (Uj hw)) gA zO
   ·have:=vp xL;show bp m<=_;omega
theorem Vc {z:au} (hz:bj z):dh (qv z).1:=by
 unfold qv
 split
 ·show dh Kn;decide
 ·exact adi hz zO
theorem U2 {z:au} {l:List Name} (hz:bj z) (hl:l.length<=20):(∀ s ∈ (wh z l).1,dh s)/\(wh z l).1.length<=40:=by
 unfold wh
 split
 ·exact ⟨fun s hs=>(by cases hs),zzb _⟩
 ·have:=auf (B7 (z:=z) zO) l [];exact ⟨aqr hz,by show (qm z [] l).length<=_;omega⟩
theorem aGr (z:au) (n:Name) (t:UInt16) (l:List Name) (hz:bj z) (hn:ay n) (hl:jq l):wl PP [aDc,ad1] 0 (ni 3 (Tryz.f5.body.getD .skip)) (D7 (fun L st=>((z.aj.length<=40/\∀ x ∈ z.aj,x.data.length<=20)/\l.length<=20)/\(aP be (aC ak (aC cf (aC (br ak) (aP be a0))))).get st.h [lk L 4,lk L 1,lk L 2,lk L 3,lk L 9]=some (z,n,t,l,z,())) (c8 PP Tryz.f5.results.toList (fun r st=>(r1 bk).get true st.h r=some true))) (cg 0 [be.val false z,ak.val false n,cf.val false t,(br ak).val false l]) (bh []):=by
 have hlen:=hl.len;unfold Tryz.f5;simp only [dr,bw,j5];simp only [↓wR,zT,simprocAttr,↓i9,↓lx,↓jg,↓jf,↓kr,↓ko,↓pn,↓pj,↓sn,om,px,pq,Xn,hz];cases h1:Oi z with
 |false=>
  simp only [↓wR,zT,simprocAttr,↓i9,↓lx,↓jg,↓jf,↓kr,↓ko,↓pn,↓pj,↓sn,om,px,pq]
  try rfl
 |true=>
  have hf:=auk h1;simp only [↓wR,zT,simprocAttr,↓i9,↓lx,↓jg,↓jf,↓kr,↓ko,↓pn,↓pj,↓sn,om,px,pq];rw [bg];refine ⟨fun h=>?_,fun h=>?_⟩
  ·simp only [↓wR,zT,simprocAttr,h,↓i9,↓lx,↓jg,↓jf,↓kr,↓ko,↓pn,↓pj,↓sn,om,px,pq]
   try rfl
  ·simp only [↓wR,zT,simprocAttr,h,↓i9,↓lx,↓jg,↓jf,↓kr,↓ko,↓pn,↓pj,↓sn,om,px,pq,E3,hz];exact ⟨hf,zO⟩
theorem aF0 (z:au) (n:Name) (t:UInt16) (l:List Name):opsL PP [] (n6 (ji 3 (Tryz.f5.body.getD .skip))) ((n6 (ji 3 (Tryz.f5.body.getD .skip))).toList.take 3) (fun L st=>(aP be (aC ak (aC cf (aC (br ak) (aP be (aC be (aC ak (aC cf a0)))))))).get st.h [lk L 4,lk L 1,lk L 2,lk L 3,lk L 9,lk L 34,lk L 35,lk L 36]=some (z,n,t,l,z,z,n,t,())) [(4,.fe [zn z.origin,zs z.aj]),(1,zn n),(2,.sc (.int .u16 (t).toNat)),(3,zv l),(9,.fe [zn z.origin,zs z.aj])] (bh []):=by unfold Tryz.f5;simp only [↓wR,zT,simprocAttr,↓i9,↓lx,↓jg,↓jf,↓kr,↓ko,↓pn,↓pj,↓sn,om,px,pq,List.take_succ_cons,List.take_zero]
theorem aF5 (z:au) (n:Name) (t:UInt16) (l:List Name) (k0:Int) (e:Value) (a1 a2:Option Addr) (n1 m1 n2 m2:Nat):opsL PP [] (n6 (ji 3 (Tryz.f5.body.getD .skip))) ((n6 (ji 3 (Tryz.f5.body.getD .skip))).toList.drop 4) (fun L st=>(aP be (aC ak (aC cf (aC (br ak) (aP be a0))))).get st.h [lk L 4,lk L 1,lk L 2,lk L 3,lk L 9]=some (z,n,t,l,z,())/\(∃ o k,lk L 10 = .ptr o 0/\st.h.get o=some (.row [.sc (.int .u8 k0),.sc (.slice a1 n1 m1),.sc (.slice a2 n2 m2)] k 2 66))/\lk L 11 = .sc e) [(4,.fe [zn z.origin,zs z.aj]),(1,zn n),(2,.sc (.int .u16 (t).toNat)),(3,zv l),(9,.fe [zn z.origin,zs z.aj]),(37,.gn [.agg [.sc (.int .u8 k0),.sc (.slice a1 n1 m1),.sc (.slice a2 n2 m2)],.sc e])] (bh []):=by unfold Tryz.f5;simp only [↓wR,zT,simprocAttr,↓i9,↓lx,↓jg,↓jf,↓kr,↓ko,↓pn,↓pj,↓sn,om,px,pq,List.drop_succ_cons,List.drop_zero];exact ⟨0,0,rfl,rfl⟩
theorem aGk (z:au) (n:Name) (t:UInt16) (l:List Name) (P:th) (e:Int) (hz:bj z) (hn:ay n) (hl:jq l) (hP:uv z n t=(P,e)) (iT:Y8 P) (gM:l.length<=20):wl PP [az2,ahl,adw,aul,atm,E2,Em,Ts] 0 (ni 6 (gm 4 (Tryz.f5.body.getD .skip))) (D7 (fun L st=>(∃ o k,lk L 12 = .ptr o 0/\st.h.get o=some (.row (pr.cells true (P)) (k) 2 66))/\(∃ o k,lk L 14 = .ptr o 0/\st.h.get o=some (.row (ai.cells true ((qv z).1)) (k) 2 31))/\(br ai).fq true st.h (lk L 18)=some (wh z l).1) noQ) [(4,.fe [zn z.origin,zs z.aj]),(1,zn n),(2,.sc (.int .u16 (t).toNat)),(3,zv l),(9,.fe [zn z.origin,zs z.aj]),(10,.fe [.sc (.int .u8 (P).turn),.vl false 5 ((P).aj.map (ai.val false)),.vl false 1 ((P).to.map (ah.val false))]),(11,.sc (.int .i64 e))] (bh []):=by
 have eC:=iT.mid;have pV:=iT.to;have cY:=Vc hz;have had:=U2 hz gM;obtain ⟨D,f,hD⟩:∃ D f,qv z=(D,f):=⟨_,_,rfl⟩;obtain ⟨X,g,hX⟩:∃ X g,wh z l=(X,g):=⟨_,_,rfl⟩;rw [hD] at cY ⊢;rw [hX] at had ⊢;have hmx:se X:=⟨zzu had.2 (by decide),had.1⟩;have lM:P.to.length<=16777216:=by have:=(ja P.to 0).2;unfold ay at pV;omega
 unfold Tryz.f5;simp only [↓wR,zT,simprocAttr,↓i9,↓lx,↓jg,↓jf,↓kr,↓ko,↓pn,↓pj,↓sn,om,px,pq,Nc,Eo,Er,Jv,Je,hz,hn,hl,hP,hD,hX,ux,s7,Ap,eC,lM,cY,hmx,bne_self_eq_false,G9];exact ⟨⟨0,0,rfl,rfl⟩,1,0,rfl,rfl⟩
theorem aE3 (c0 c1 c2:Value):opsL PP [] (n6 (ji 10 (Tryz.f5.body.getD .skip))) ((n6 (ji 10 (Tryz.f5.body.getD .skip))).toList.take 2) (fun L st=>lk L 118 = .sc c2) [(10,.fe [.sc c0,.sc c1,.sc c2])] (bh []):=by unfold Tryz.f5;simp only [↓wR,zT,simprocAttr,↓i9,↓lx,↓jg,↓jf,↓kr,↓ko,↓pn,↓pj,↓sn,om,px,pq,List.take_succ_cons,List.take_zero]
theorem aGp (P:th) (c0 c2:Value) (hm:se P.aj):wl PP [E2] 0 (ni 1 (gm 11 (Tryz.f5.body.getD .skip))) (D7 (fun L st=>lk L 22 = .sc (.bool true)) noQ) [(10,.fe [.sc c0,zs P.aj,.sc c2]),(12,.fe [.sc (.int .u8 (P).turn),.vl false 5 ((P).aj.map (ai.val false)),.vl false 1 ((P).to.map (ah.val false))])] (bh []):=by unfold Tryz.f5;simp only [↓wR,zT,simprocAttr,↓i9,↓lx,↓jg,↓jf,↓kr,↓ko,↓pn,↓pj,↓sn,om,px,pq,ux,hm,G9]
theorem aFe (c0 c1 c2:Value):opsL PP [] (n6 (ji 12 (Tryz.f5.body.getD .skip))) ((n6 (ji 12 (Tryz.f5.body.getD .skip))).toList.take 2) (fun L st=>lk L 126 = .sc c1) [(10,.fe [.sc c0,.sc c1,.sc c2])] (bh []):=by unfold Tryz.f5;simp only [↓wR,zT,simprocAttr,↓i9,↓lx,↓jg,↓jf,↓kr,↓ko,↓pn,↓pj,↓sn,om,px,pq,List.take_succ_cons,List.take_zero]
theorem aF4 (c0 c1 c2 c3 c4:Value):opsL PP [] (n6 (ji 13 (Tryz.f5.body.getD .skip))) ((n6 (ji 13 (Tryz.f5.body.getD .skip))).toList.take 2) (fun L st=>lk L 129 = .sl 0 0 1 5/\st.h.get 0=some (.row [.sc c0,.sc c1,.sc c2,.sc c3,.sc c4] 0 0 31)) [(14,.fe [.sc c0,.sc c1,.sc c2,.sc c3,.sc c4])] (bh []):=by unfold Tryz.f5;simp only [↓wR,zT,simprocAttr,↓i9,↓lx,↓jg,↓jf,↓kr,↓ko,↓pn,↓pj,↓sn,om,px,pq,List.take_succ_cons,List.take_zero]
theorem aFz (v:Value):opsL PP [] (n6 (ji 14 (Tryz.f5.body.getD .skip))) ((n6 (ji 14 (Tryz.f5.body.getD .skip))).toList.take 1) (fun L st=>lk L 131 = .sc v) [(18,.sc v)] (bh []):=by unfold Tryz.f5;simp only [↓wR,zT,simprocAttr,↓i9,↓lx,↓jg,↓jf,↓kr,↓ko,↓pn,↓pj,↓sn,om,px,pq,List.take_succ_cons,List.take_zero]
theorem aGl (z:au) (hz:bj z):wl PP [Zp] 0 (gm 15 (Tryz.f5.body.getD .skip)) (fun e L st=>e = .ret/\lk L 8 = .sc (.bool true)) [(4,.fe [zn z.origin,zs z.aj]),(9,.fe [zn z.origin,zs z.aj]),(22,.sc (.bool true))] (bh []):=by unfold Tryz.f5;simp only [↓wR,zT,simprocAttr,↓i9,↓lx,↓jg,↓jf,↓kr,↓ko,↓pn,↓pj,↓sn,om,px,pq,Bw,hz,G9]
theorem aDb:(c8 PP Tryz.f5.results.toList (fun r st=>(r1 bk).get true st.h r=some true)) .ret [(8,.sc (.bool true))] (bh []):=by unfold Tryz.f5;simp only [↓wR,zT,simprocAttr]
theorem aBs:ar PP [aDc,ad1]:=ar.cons (aq avp) (ar.cons (aq adg) (ar.nil PP))
theorem aCm:ar PP [az2,ahl,adw,aul,atm,E2,Em,Ts]:=ar.cons (aq ao1) (ar.cons (aq ac9) (ar.cons (aq ace) (ar.cons (aq akc) (ar.cons (aq ak2) (ar.cons (aq Dp) (ar.cons (aq xu) (ar.cons (aq Mh) (ar.nil PP))))))))
theorem aCb:ar PP [E2]:=ar.cons (aq Dp) (ar.nil PP)
theorem aBb:ar PP [Zp]:=ar.cons (aq X1) (ar.nil PP)
theorem ayq {g:Gh} {w:World} (a b c e:Value):Rel g w (.gn [.agg [.sc a,.sc b,.sc c],.sc e]) (.tuple #[.agg #[a,b,c],e]):=by
 refine .gn _ _ rfl (fun i x v hx hv=>?_)
 match i,hx,hv with
 |0,hx,hv=>
  cases hx;cases hv;refine .agg _ _ rfl (fun i x v hx hv=>?_)
  match i,hx,hv with
  |0,hx,hv=>cases hx;cases hv;exact .sc _
  |1,hx,hv=>cases hx;cases hv;exact .sc _
  |2,hx,hv=>cases hx;cases hv;exact .sc _
  |i+3,hx,hv=>cases hx
 |1,hx,hv=>cases hx;cases hv;exact .sc _
 |i+2,hx,hv=>cases hx
theorem ayb {g:Gh} {w:World} {a b:AV} {v:Value} (h:Rel g w (.agg [a,b]) v):∃ x y,v = .agg #[x,y]:=by
 cases h with
 |agg _ us hs hel=>
  obtain ⟨x,y,rfl⟩:=ain (cs:=us) hs;exact ⟨x,y,rfl⟩
theorem aAn {g:Gh} {w:World} {b:Nat} {e:TypeId} {v c0 c1 c2:Value} (h:w.heap[b]? = some (.cells #[c0,c1,c2] e (0,0))) (hv:v = .pointer (some ⟨b,0,none⟩)) (hK:∀ j,g.K b j):Rel g w (.fe [.sc c0,.sc c1,.sc c2]) v:=by rw [hv];exact al5 (g:=g) h hK
theorem apw {g:Gh} {w:World} {b:Nat} {cs:Array Value} {e:TypeId} {v:Value} {cells:List AV} (h:w.heap[b]? = some (.cells cs e (0,0))) (hv:v = .pointer (some ⟨b,0,none⟩)) (hK:∀ j,g.K b j) (hr:bt g w cells cs.toList):Rel g w (.fe cells) v:=by rw [hv];exact aot h hK hr
set_option maxHeartbeats 8000000 in
theorem ayw {B:fh} (aH:B.ll) (hp:B.bb=0) (hO:∀ b,¬ B.O b) (aS:B.n0<=B.w.heap.size) {z:au} {n:Name} {t:UInt16} {l:List Name} (hz:bj z) (hw:gh nl z.aj<=8388608) (hn:ay n) (hl:jq l) {g:Gh} {ac:Act} {w:World}
 (hh:jn B (139:Nat) (cg 0 [be.val false z,ak.val false n,cf.val false t,(br ak).val false l]) (bh []) g ac w):((Tryz.f5.body.getD .skip)).wpIn (ft none) 0 PP (Fin B (139:Nat) (c8 PP Tryz.f5.results.toList (fun r st=>(r1 bk).get true st.h r=some true))) ac w:=by
 refine Hu aBs zK aH zO aS (Q:=D7 (fun L st=>((z.aj.length<=40/\∀ x ∈ z.aj,x.data.length<=20)/\l.length<=20)/\(aP be (aC ak (aC cf (aC (br ak) (aP be a0))))).get st.h [lk L 4,lk L 1,lk L 2,lk L 3,lk L 9]=some (z,n,t,l,z,())) (c8 PP Tryz.f5.results.toList (fun r st=>(r1 bk).get true st.h r=some true))) 2 (Tryz.f5.body.getD .skip) zK zK ?_ _ _ g ac w (by rw [hp];exact aGr z n t l hz hn hl) hh;rintro e L1 gi g1 a1 w1 hq eG;cases e with
 |ret=>exact ⟨.ret,L1,gi,g1,rfl,hq,eG.cur,eG.sl,eG.Fg⟩
 |exit id=>exact hq.elim
 |normal=>
 obtain ⟨⟨rD,gM⟩,ef⟩:=hq;have hr1:=eG.read (aP be (aC ak (aC cf (aC (br ak) (aP be a0))))) [4,1,2,3,9] ef;have qL:=P9 [4,1,2,3,9] eG.sl.1;obtain ⟨P,e0,hN⟩:∃ P e0,uv z n t=(P,e0):=⟨_,_,rfl⟩;have iT:Y8 P:=by have:=azb (n:=n) (t:=t) hw hz rD;rw [hN] at this;exact this
 have had:=U2 hz gM;show (gm 3 (Tryz.f5.body.getD .skip)).wpIn (ft none) 0 PP _ a1 w1;refine ar5 (Lk zK) (wpIn_seq ?_);have jV:ji 3 (Tryz.f5.body.getD .skip) = .region (idC (ji 3 (Tryz.f5.body.getD .skip))) (n6 (ji 3 (Tryz.f5.body.getD .skip))) false:=zK;rw [jV];refine ak0 ?_;have lO:(n6 (ji 3 (Tryz.f5.body.getD .skip))).toList=(n6 (ji 3 (Tryz.f5.body.getD .skip))).toList.take 3++(n6 (ji 3 (Tryz.f5.body.getD .skip))).toList.getD 3 ⟨none,.move (.tmp 0),0, "",#[],none⟩::(n6 (ji 3 (Tryz.f5.body.getD .skip))).toList.drop 4:=zK;have hgd:rj (uu 139 [4,1,2,3,9] a1.tmps) (n6 (ji 3 (Tryz.f5.body.getD .skip)))=true:=zK;have cY:xc (uu 139 [4,1,2,3,9] a1.tmps) (n6 (ji 3 (Tryz.f5.body.getD .skip)))=true:=zK;have hm:∀ o ∈ (n6 (ji 3 (Tryz.f5.body.getD .skip))).toList.take 3++(n6 (ji 3 (Tryz.f5.body.getD .skip))).toList.getD 3 ⟨none,.move (.tmp 0),0, "",#[],none⟩::(n6 (ji 3 (Tryz.f5.body.getD .skip))).toList.drop 4,o ∈ (n6 (ji 3 (Tryz.f5.body.getD .skip))):=fun o ho=>by rw [<- lO] at ho;exact Array.mem_toList_iff.1 ho
 rw [lO];refine asq (ar.nil PP) (u3 w1 a1.defers) hgd cY (fun o ho=>hm o (zzq.2 (.inl ho))) (hm _ (by simp)) (f:=40) (args:=[34,35,36]) (d:=some 37) zK zK (aF0 z n t l) (xw qL (aC7 hr1)) ?_;intro L2 zR g2 a2 w2 mW cL;have hr2:=cL.read (aP be (aC ak (aC cf (aC (br ak) (aP be (aC be (aC ak (aC cf a0)))))))) [4,1,2,3,9,34,35,36] mW;have M2:uj (fun _=>False) w1 a1.defers a2.defers w2:=(uj.start _ w1 a1.defers).later cL;have aL:bt (gK w2.heap.size (qz w2)) w2 [be.val false z,ak.val false n,cf.val false t] [a2.tmps.getD 34 undef,a2.tmps.getD 35 undef,a2.tmps.getD 36 undef]:=by
  refine ⟨rfl,fun i x v hx hv=>?_⟩
  match i,hx,hv with
  |0,hx,hv=>exact hr2.2 5 x v hx hv
  |1,hx,hv=>exact hr2.2 6 x v hx hv
  |2,hx,hv=>exact hr2.2 7 x v hx hv
  |i+3,hx,hv=>cases hx
 obtain ⟨vo,vs,uF⟩:=ayb (aL.2 0 _ _ rfl rfl);have uE:a2.tmps.getD 36 undef = .int .u16 t.toNat:=(aL.2 2 _ _ rfl rfl).exact rfl;rw [uF,uE] at aL;show Calls PP _ #[a2.tmps.getD 34 undef,a2.tmps.getD 35 undef,a2.tmps.getD 36 undef] w2 _;rw [uF,uE];have bX:Calls PP 40 #[.agg #[vo,vs],a2.tmps.getD 35 undef,.int .u16 t.toNat] w2 (fun e w'=>∃ va vb,e = .returned (.tuple #[.agg #[.int .u8 P.turn,va,vb],.int .i64 e0])/\k5 w2 w'/\Fv w2 w' (qz w2) P va vb):=by have h:=aqk hz hn (K:=qz w2) (fun _ _ h=>h) aL;rw [hN] at h;exact h
 refine bX.mono ?_;rintro e w3 ⟨va,vb,rfl,q3,eW⟩;obtain ⟨K1,K2,s1,s2,s12,rs,rt⟩:=eW;obtain ⟨iA,hZ,gZ,rfl⟩:∃ a n c,va = .slice a n c:=by have h:=rs;rw [j5] at h;exact Jb h
 obtain ⟨gY,gX,gW,rfl⟩:∃ a n c,vb = .slice a n c:=by have h:=rt;rw [bw] at h;exact Jb h
 refine ⟨_,rfl,fun a3 oT hs3 gJ xN=>?_⟩;have M3:uj (fun _=>False) w1 a1.defers a3.defers w3:=by rw [oT];exact M2.ph (q3.ph _ 0 false)
 have zt:uj (fun _=>False) w2 a2.defers a2.defers w3:=(uj.start _ w2 a2.defers).ph (q3.ph _ 0 false);have fB:=bt.low zt (fun _ _ h=>h) hr2;have qK:tl (uu 139 [4,1,2,3,9] a1.tmps) a3.tmps:=atu cL.sl.1 hs3 gJ (by decide);refine ax1 (ar.nil PP) (u3 w3 a3.defers) hgd cY (fun o ho=>hm o (zzq.2 (.inr (List.mem_cons_of_mem _ ho)))) (aF5 z n t l P.turn (.int .i64 e0) iA gY hZ gZ gX gW) (xw qK (K6 (fun p hp=>?_))) ?_
 ·simp only [zya,List.not_mem_nil,or_false] at hp;rcases hp with rfl|rfl|rfl|rfl|rfl|rfl
  ·show Rel _ _ _ (a3.tmps.getD 4 undef);rw [gJ 4 (by decide)];exact fB.2 0 _ _ rfl rfl
  ·show Rel _ _ _ (a3.tmps.getD 1 undef);rw [gJ 1 (by decide)];exact fB.2 1 _ _ rfl rfl
  ·show Rel _ _ _ (a3.tmps.getD 2 undef);rw [gJ 2 (by decide)];exact fB.2 2 _ _ rfl rfl
  ·show Rel _ _ _ (a3.tmps.getD 3 undef);rw [gJ 3 (by decide)];exact fB.2 3 _ _ rfl rfl
  ·show Rel _ _ _ (a3.tmps.getD 9 undef);rw [gJ 9 (by decide)];exact fB.2 4 _ _ rfl rfl
  ·show Rel _ _ _ (a3.tmps.getD 37 undef);rw [xN 37 rfl];exact ayq _ _ _ _
 rintro L4 zQ g4 a4 w4 ⟨mV,⟨AE,AL,h10,jR⟩,h11⟩ fJ;show (gm 4 (Tryz.f5.body.getD .skip)).wpIn (ft none) 0 PP _ a4 w4;obtain ⟨kM,nP,eA,rQ,bT,jU⟩:=fJ.box h10 jR;have nC:nP = #[.int .u8 P.turn,.slice iA hZ gZ,.slice gY gX gW]:=by have:=Tl (l:=[.int .u8 P.turn,.slice iA hZ gZ,.slice gY gX gW]) jU;rw [<- Array.toArray_toList (xs:=nP),this]
 subst nC;have nG:w3.heap.size<=kM:=rQ;have e11:a4.tmps.getD 11 undef = .int .i64 e0:=fJ.exact h11;have M4:uj (fun _=>False) w1 a1.defers a4.defers w4:=M3.later fJ;have hr4:=fJ.read (aP be (aC ak (aC cf (aC (br ak) (aP be a0))))) [4,1,2,3,9] mV;have uB:w1.heap.size<=w2.heap.size:=cL.cur.base.size;have pA:=q3.size;have rY:w3.heap.size<=w4.heap.size:=fJ.cur.base.size;have k1:∀ b j,K1 b j->b<w3.heap.size:=fun b j h=>by
  rcases s1 b j h with h|h
  ·exact zyc h pA
  ·exact h.2
 have pJ:∀ b,b<w3.heap.size->w4.heap[b]? = w3.heap[b]? := fun b h=>fJ.cur.base.frame b h (fun h=>h)
 have jO:Rel (gK w4.heap.size (qz w4)) w4 ((br ai).val false P.aj) (.slice iA hZ gZ):=
  (Qv (br ai) (b1:=w3.heap.size) (K':=K1) pA k1 (fun b j h _=>h) rs).stay (fun b h1 h2=>absurd (k1 b 0 (h2 0)) (Nat.not_lt.2 h1)) (fun b j h=>zyc (k1 b j h) rY) (fun b j h=>pJ b (k1 b j h))
 have pU:Rel (gK w4.heap.size (qz w4)) w4 (ak.val false P.to) (.slice gY gX gW):=
  (Qv ak (b1:=w3.heap.size) (K':=K2) pA (fun b j h=>(s2 b j h).2) (fun b j h _=>h) rt).stay (fun b h1 h2=>absurd (s2 b 0 (h2 0)).2 (Nat.not_lt.2 h1)) (fun b j h=>zyc (s2 b j h).2 rY) (fun b j h=>pJ b (s2 b j h).2)
 have qJ:=P9 [4,9,10] fJ.sl.1;refine Hu aCm zK (u3 w4 a4.defers) (zzb _) (zza _) (nt:=uu 139 [4,9,10] a4.tmps) (Q:=D7 (fun L st=>(∃ o k,lk L 12 = .ptr o 0/\st.h.get o=some (.row (pr.cells true (P)) (k) 2 66))/\(∃ o k,lk L 14 = .ptr o 0/\st.h.get o=some (.row (ai.cells true ((qv z).1)) (k) 2 31))/\(br ai).fq true st.h (lk L 18)=some (wh z l).1) noQ) 5 (gm 4 (Tryz.f5.body.getD .skip)) zK (wu (x:=#[]) zK) ?_ _ _ _ a4 w4 (aGk z n t l P e0 hz hn hl hN iT gM) (xw qJ (K6 (fun p hp=>?_)));rotate_left
 ·simp only [zya,List.not_mem_nil,or_false] at hp;rcases hp with rfl|rfl|rfl|rfl|rfl|rfl|rfl
  ·exact hr4.2 0 _ _ rfl rfl
  ·exact hr4.2 1 _ _ rfl rfl
  ·exact hr4.2 2 _ _ rfl rfl
  ·exact hr4.2 3 _ _ rfl rfl
  ·exact hr4.2 4 _ _ rfl rfl
  ·exact apw bT eA (fun j=>bu bT) (bt.cons (.sc _) (bt.cons jO (.one pU)))
  ·exact afc e11
 rintro e L5 zP g5 a5 w5 hq dW;cases e with
 |ret=>exact hq.elim
 |exit id=>exact hq.elim
 |normal=>
 obtain ⟨⟨AD,AK,qU,jQ⟩,⟨AB,AH,qT,jP⟩,yH⟩:=hq;obtain ⟨uK,sJ,nO,rP,dU,jT⟩:=dW.box qU jQ;obtain ⟨uJ,sI,yP,nE,gO,eZ⟩:=dW.box qT jP;have pR:=dW.aFu (br ai) true 18 yH;have qI:=P9 [4,9,10,12,14,18] dW.sl.1;have yG:w4.heap.size<=w5.heap.size:=dW.cur.base.size;have tA:∀ b,b<w4.heap.size->w5.heap[b]? = w4.heap[b]? := fun b h=>dW.cur.base.frame b h (fun h=>h)
 have bL:=(tA kM (bu bT)).trans bT;have v10:a5.tmps.getD 10 undef = .pointer (some ⟨kM,0,none⟩):=(m9 dW.sl.1 (by decide)).trans eA;obtain ⟨S,hS⟩:∃ S:Nat->Prop,S=fun b=>∀ j,K2 b j:=⟨_,rfl⟩
 obtain ⟨R,hR⟩:∃ R:Nat->Prop,R=fun b=>w1.heap.size<=b:=⟨_,rfl⟩
 have hSw:∀ b,S b->w2.heap.size<=b/\b<w3.heap.size:=fun b h=>by rw [hS] at h;exact s2 b 0 (h 0)
 have jA:∀ b,w1.heap.size<=b->R b:=fun b h=>by rw [hR];exact h
 have rU:∀ b,b<w1.heap.size->¬ R b:=fun b h q=>by rw [hR] at q;exact Nat.not_le.2 h q
 have tW:∀ b,S b->R b:=fun b h=>jA b (zzu uB (hSw b h).1)
 have mK:mo S 16777216 w3 .str (.slice gY gX gW):=Pm (fun b _ h=>by rw [hS];exact h) iT.to rt;have rM:gm (5+1) (gm 4 (Tryz.f5.body.getD .skip))=gm 10 (Tryz.f5.body.getD .skip):=zK;rw [rM];show (gm 10 (Tryz.f5.body.getD .skip)).wpIn (ft none) 0 PP _ a5 w5;refine Hq (ar.nil PP) (u3 w5 a5.defers) (nt:=uu 139 [4,9,10,12,14,18] a5.tmps) (n:=2) zK zK (wu (x:=#[]) zK) (d:=some 119) (f:=38) (args:=[118]) zK zK (aE3 (.int .u8 P.turn) (.slice iA hZ gZ) (.slice gY gX gW)) (xw qI (K6 (fun p hp=>by rw [zz0] at hp;subst hp;exact aAn bL v10 (fun j=>bu bL)))) ?_;intro L6 zN g6 a6 w6 sG kT;have yF:w5.heap.size<=w6.heap.size:=kT.cur.base.size;have vR:gp S 0 false w3 w6:=((fJ.quiet S 0 false).trans (dW.quiet S 0 false)).trans (kT.quiet S 0 false);show Calls PP _ #[a6.tmps.getD 118 undef] w6 _;rw [kT.exact sG];refine (yz (by decide) (mo.ph (by decide) vR mK)).mono ?_;rintro e w7 ⟨r7,rfl,oD⟩;refine ⟨r7,rfl,fun a7 xQ jY _=>?_⟩;have AW:=oD.size;have nX:∀ b,b<w5.heap.size->¬ S b->w7.heap[b]? = w5.heap[b]? := fun b h hn=>(oD.low b (zyc h yF) hn).trans (kT.cur.base.frame b h (fun h=>h))
 have nS:∀ b,w3.heap.size<=b->¬ S b:=fun b h q=>absurd (hSw b q).2 (Nat.not_lt.2 h)
 have bK:=(nX kM (bu bL) (nS _ nG)).trans bL;have cU:=(nX uK (bu dU) (nS _ (zzu rY rP))).trans dU;have jN:Rel (gK w7.heap.size (qz w7)) w7 ((br ai).val false P.aj) (.slice iA hZ gZ):=
  (Qv (br ai) (b1:=w3.heap.size) (K':=K1) pA k1 (fun b j h _=>h) rs).stay (fun b h1 h2=>absurd (k1 b 0 (h2 0)) (Nat.not_lt.2 h1)) (fun b j h=>by have:=k1 b j h;show b<w7.heap.size;omega) (fun b j h=>by have:=k1 b j h;rw [nX b zO (fun q=>s12 b j 0 h (by rw [hS] at q;exact q 0)),tA b zO,pJ b this])
 have fN:bt (gK w7.heap.size (qz w7)) w7 (pr.cells false P) sJ.toList:=
  (auj pr (b1:=w5.heap.size) (K':=fun b _=>w4.heap.size<=b/\b<w5.heap.size) yG (fun b j h=>h.2) (fun b j h1 h2=>⟨h2,h1⟩) (dW.az3 pr jT)).apn (fun b h1 h2=>absurd (h2 0).2 (Nat.not_lt.2 h1)) (fun b j h=>by show b<w7.heap.size;omega) (fun b j h=>nX b h.2 (nS b zO))
 have u10:a7.tmps.getD 10 undef = .pointer (some ⟨kM,0,none⟩):=(m9 jY (by decide)).trans v10;have u12:a7.tmps.getD 12 undef = .pointer (some ⟨uK,0,none⟩):=(m9 jY (by decide)).trans nO;refine Hu aCb zK (u3 w7 a7.defers) (zzb _) (zza _) (nt:=uu 139 [4,9,10,12,14,18] a5.tmps) (Q:=D7 (fun L st=>lk L 22 = .sc (.bool true)) noQ) 0 (gm 11 (Tryz.f5.body.getD .skip)) zK (wu (x:=#[]) zK) ?_ _ _ _ a7 w7 (aGp P (.int .u8 P.turn) (.slice gY gX gW) iT.mid) (xw jY (K6 (fun p hp=>?_)));rotate_left
 ·simp only [zya,List.not_mem_nil,or_false] at hp;rcases hp with rfl|rfl
  ·exact apw bK u10 (fun j=>bu bK) (bt.cons (.sc _) (bt.cons jN (.one (.sc _))))
  ·exact apw cU u12 (fun j=>bu cU) fN
 rintro e L8 zM g8 a8 w8 sA fU;cases e with
 |ret=>exact sA.elim
 |exit id=>exact sA.elim
 |normal=>
 have yO:a8.tmps.getD 22 undef = .bool true:=fU.exact sA;have rL:gm (0+1) (gm 11 (Tryz.f5.body.getD .skip))=gm 12 (Tryz.f5.body.getD .skip):=zK;rw [rL];show (gm 12 (Tryz.f5.body.getD .skip)).wpIn (ft none) 0 PP _ a8 w8;have qH:=P9 [4,9,10,14,18,22] fU.sl.1;have uX:a8.tmps.getD 10 undef = .pointer (some ⟨kM,0,none⟩):=(m9 fU.sl.1 (by decide)).trans v10;have uW:a8.tmps.getD 14 undef = .pointer (some ⟨uJ,0,none⟩):=(m9 fU.sl.1 (by decide)).trans yP;have uV:a8.tmps.getD 18 undef=a5.tmps.getD 18 undef:=m9 fU.sl.1 (by decide);have x4:a8.tmps.getD 4 undef=a1.tmps.getD 4 undef:=((m9 fU.sl.1 (by decide)).trans (m9 dW.sl.1 (by decide))).trans (m9 fJ.sl.1 (by decide));have x9:a8.tmps.getD 9 undef=a1.tmps.getD 9 undef:=((m9 fU.sl.1 (by decide)).trans (m9 dW.sl.1 (by decide))).trans (m9 fJ.sl.1 (by decide));have cV:=(fU.cur.base.frame kM (bu bK) (fun h=>h)).trans bK;have M8:uj R w1 a1.defers a8.defers w8:=by have h:=(((M4.wide (S':=R) (fun b _ h=>h.elim)).later dW).later kT).ph (ag8 tW oD);rw [<- xQ] at h;exact h.later fU
 have Ta:mi R 40 w3 5 (Ct R 16777216 16777216 16777216) (.slice iA hZ gZ):=al1 (fun b h _=>jA b (zzu uB h)) iT.set iT.len rs;have Td:Ct R 16777216 16777216 16777216 w5 sI.toList:=ar9 (fun b h _=>jA b (by have:w4.heap.size<=b:=h;omega)) (Vc hz) (dW.az3 ai eZ);have Tx:mi R 40 w5 5 (Ct R 16777216 16777216 16777216) (a5.tmps.getD 18 undef):=al1 (fun b h _=>jA b (by have:w4.heap.size<=b:=h;omega)) had.1 had.2 pR;have sV:gp R 1 true w5 w8:=gp.mono (by decide) (((kT.quiet R 0 true).trans (ag8 tW oD).any).trans (fU.quiet R 0 true));refine Hq (ar.nil PP) (u3 w8 a8.defers) (nt:=uu 139 [4,9,10,14,18,22] a8.tmps) (n:=2) zK zK (wu (x:=#[]) zK) (d:=some 127) (f:=19) (args:=[126]) zK zK (aFe (.int .u8 P.turn) (.slice iA hZ gZ) (.slice gY gX gW)) (xw qH (K6 (fun p hp=>by rw [zz0] at hp;subst hp;exact aAn cV uX (fun j=>bu cV)))) ?_;intro L9 zJ g9 a9 w9 sF oN;have M9:=M8.later oN;have vS:gp R 1 true w3 w9:=gp.mono (by decide) ((((fJ.quiet R 0 true).trans (dW.quiet R 0 true)).trans sV).trans (oN.quiet R 0 true));show Calls PP _ #[a9.tmps.getD 126 undef] w9 _;rw [oN.exact sF];refine (Hc (by decide) (by decide) (fun b hb=>jA b (zzu M9.size hb)) (La (by decide) vS Ta)).mono ?_;rintro e lA ⟨vP,rfl,mC⟩;refine ⟨vP,rfl,fun pG nB iM _=>?_⟩;have uR:uj R w1 a1.defers pG.defers lA:=by rw [nB];exact M9.ph mC
 have lF:gp R 18014398509481984 true w5 lA:=gp.mono (by decide) ((sV.trans (oN.quiet R 0 true)).trans mC);obtain ⟨uH,cT,pW,uO⟩:=aBz (Va R 16777216 16777216) (by decide) lF gO awh eZ.1 Td;obtain ⟨c0,c1,c2,c3,c4,hcs,_⟩:=id uO;have uT:pG.tmps.getD 14 undef = .pointer (some ⟨uJ,0,none⟩):=(m9 iM (by decide)).trans uW;refine Hq (ar.nil PP) (u3 lA pG.defers) (nt:=uu 139 [4,9,10,14,18,22] a8.tmps) (n:=2) zK zK (wu (x:=#[]) zK) (d:=some 130) (f:=19) (args:=[129]) zK zK (aF4 c0 c1 c2 c3 c4) (xw iM (K6 (fun p hp=>by rw [zz0] at hp;subst hp;show Rel _ _ (.fe [.sc c0,.sc c1,.sc c2,.sc c3,.sc c4]) (pG.tmps.getD 14 undef);rw [uT];have:=al5 (g:=gK lA.heap.size (qz lA)) cT (fun j=>bu cT);rw [hcs] at this;exact this))) ?_
 rintro BM vI AZ yY uZ ⟨sD,gF⟩ gP;have uQ:=uR.later gP;have uN:=Ct.ph (by decide) (gP.quiet R 0 true) uO;rw [hcs] at uN;show Calls PP _ #[yY.tmps.getD 129 undef] uZ _;refine (Hc (N:=1) (Nn:=16777216) (Nd:=16777216) (M:=16777216+18014398509481984+0) (by decide) (by decide) (fun b hb=>jA b (zzu uQ.size hb)) (gP.Bp (N:=1) (fun b hb=>jA b (zzu uR.size hb)) (zza _) sD gF awh rfl (fun j vs hj hr=>?_))).mono ?_
 ·obtain rfl:j=0:=zO;have:=Tl (l:=[c0,c1,c2,c3,c4]) hr;rw [this];exact uN
 rintro e sS ⟨vO,rfl,mA⟩;refine ⟨vO,rfl,fun sM nA iL _=>?_⟩;have zA:uj R w1 a1.defers sM.defers sS:=by rw [nA];exact uQ.ph mA
 have uS:sM.tmps.getD 18 undef=a5.tmps.getD 18 undef:=(m9 iL (by decide)).trans uV;refine Hq (ar.nil PP) (u3 sS sM.defers) (nt:=uu 139 [4,9,10,14,18,22] a8.tmps) (n:=1) zK zK (wu (x:=#[]) zK) (d:=some 132) (f:=19) (args:=[131]) zK zK (aFz (a5.tmps.getD 18 undef)) (xw iL (K6 (fun p hp=>by rw [zz0] at hp;subst hp;exact afc uS))) ?_;intro BL vH AY yX sR sB kF;have uP:=zA.later kF;have pI:gp R 36028797018963968 true w5 sR:=gp.mono (by decide) (((lF.trans (gP.quiet R 0 true)).trans mA).trans (kF.quiet R 0 true));show Calls PP _ #[yX.tmps.getD 131 undef] sR _;rw [kF.exact sB];refine (Hc (by decide) (by decide) (fun b hb=>jA b (zzu uP.size hb)) (La (by decide) pI Tx)).mono ?_;rintro e sQ ⟨vN,rfl,qG⟩;refine ⟨vN,rfl,fun pF rK dP _=>?_⟩;have sN:uj R w1 a1.defers pF.defers sQ:=by rw [rK];exact uP.ph qG
 refine abr aBb zK (u3 sQ pF.defers) (zzb _) (zza _) (nt:=uu 139 [4,9,10,14,18,22] a8.tmps) (wu (x:=#[]) zK) ?_ (aGl z hz) (xw dP (K6 (fun p hp=>?_)));rotate_left
 ·simp only [zya,List.not_mem_nil,or_false] at hp;rcases hp with rfl|rfl|rfl
  ·show Rel _ _ _ (pF.tmps.getD 4 undef);rw [(m9 dP (by decide)).trans x4];exact Rel.low sN rU (hr1.2 0 _ _ rfl rfl)
  ·show Rel _ _ _ (pF.tmps.getD 9 undef);rw [(m9 dP (by decide)).trans x9];exact Rel.low sN rU (hr1.2 4 _ _ rfl rfl)
  ·exact afc ((m9 dP (by decide)).trans yO)
 rintro e BK vG AX BG zH ⟨rfl,h8⟩ kE;exact uj.fin hp aH aS eG (sN.later kE) rU hO (au6 kE.sl.1 rfl) (kE.exact h8) (e:=.ret) aDb
noncomputable def asF (x:au × Name × UInt16 × List Name × Unit):Option AV:=open Classical in if (bj x.1/\gh nl x.1.aj<=8388608)/\ay x.2.1/\jq x.2.2.2.1 then some ((r1 bk).E true true) else none
theorem aAw (x:au × Name × UInt16 × List Name × Unit) (r:AV) (h:asF x=some r):bf PP 5 ((aC be (aC ak (aC cf (aC (br ak) a0)))).E x) r:=by obtain ⟨hc,rfl⟩:=zI h;exact Ga (body:=(Tryz.f5.body.getD .skip)) Tryz.func5 zK zK zL (r1 bk) true true (fun B g a w aH hp hO aS hh=>ayw aH hp hO aS hc.1.1 hc.1.2 hc.2.1 hc.2.2 hh)
end Go.Proofs.YtgencolcibpcaaaGreat
end
section
namespace Go.Proofs.YtgencolcibpcaaaGreat
open Go.Vm
noncomputable section
def muP {α β:Type} (μ : α->Nat) (ν : β->Nat) (p : α × β):Nat:=μ p.1 + ν p.2
def A4 {α:Type} (μ : α->Nat) (l:List α):Nat:=tq μ l+1
def Sv {α:Type} (_ : α):Nat:=1
def muI {α β:Type} (f : β -> α) (μ : α->Nat) (y : β):Nat:=μ (f y)+1
def Yh (P:Program) (t:TypeId):List Field:=match P.underlying t with|some (.struct fs)=>fs.toList|_=>[]
def aEv (l:List Field):Nat:=match l with|f::_=>f.offset | []=>0
def tyH (l:List Field):TypeId:=match l with|f::_=>f.type | []=>0
def aAb (l:List Field):Bool:=match l with|_::_=>true | []=>false
def aGm (l:List Field):Bool:=match l with | [_]=>true|_=>false
theorem Tk {P:Program} {l:List Field} {off:Nat} {t:TypeId} {α:Type} {C:di α} {μ : α->Nat} (hl:aGm l=true) (ho:aEv l=off) (ht:tyH l=t) (hs:P.cellsOf t=C.sz) (h:Rd P t C μ):Z6 P l off C μ:=by
 match l,hl with
 | [f],_=>subst ht;exact fun {H}=>aAs ho hs h
theorem ui {P:Program} {l:List Field} {off:Nat} {t:TypeId} {α β:Type} {A:di α} {B:di β} {μ : α->Nat} {ν : β->Nat} (hl:aAb l=true) (ho:aEv l=off) (ht:tyH l=t) (hs:P.cellsOf t=A.sz) (h:Rd P t A μ) (hr:Z6 P l.tail (off+A.sz) B ν):Z6 P l off (kn A B) (muP μ ν):=by
 match l,hl with
 |f::fs,_=>subst ht;exact fun {H}=>aw4 ho hs h hr
theorem Lr {P:Program} {t:TypeId} {α β:Type} {C:di α} {μ : α->Nat} {f : β -> α} {i : α -> β} {h1:∀ y,i (f y)=y} {h2:∀ x,f (i x)=x} (ht:aAb (Yh P t)=true) (hc:P.cellsOf t=C.sz) (h:Z6 P (Yh P t) 0 C μ):Rd P t (yj C f i h1 h2) (muI f μ):=by
 unfold Yh at ht h;cases hu:P.underlying t with
 |none=>rw [hu] at ht;cases ht
 |some d=>
  rw [hu] at ht h;cases d with
  |struct fs=>exact fun {H}=>aEz (av6 hu hc h)
  |_=>cases ht
theorem zj {P:Program} {t e:TypeId} {α:Type} {C:di α} {μ : α->Nat} (ht:P.underlying t=some (.slice e)) (hsz:P.cellsOf e=C.sz) (bZ : 0<C.sz) (he:Rd P e C μ):Rd P t (br C) (A4 μ):=aBt ht hsz bZ he
def Qu (s:ByteArray):Nat:=s.size+1
theorem rdS:Rd PP 9 ah Qu:=aC9 zK
def mu:Name->Nat:=A4 Qu
theorem Wz:Rd PP 24 ak mu:=zj (e:=9) zK zK (by decide) rdS
theorem aB1:Rd PP 23 ak mu:=zj (e:=9) zK zK (by decide) rdS
theorem anx:Rd PP 59 (br ak) (A4 mu):=zj (e:=24) zK zK (by decide) Wz
theorem aC5:Rd PP 98 (br cw) (A4 Sv):=zj (e:=28) zK zK (by decide) (avc zK)
theorem aFx:Rd PP 99 (br bq) (A4 Sv):=zj (e:=5) zK zK (by decide) (aE1 zK)
def Jf (d:cj):Nat:=A4 mu d.names+(A4 Sv d.nums+(mu d.texts+A4 Sv d.raw))+1
theorem aEx:Rd PP 101 bc Jf:=
 Lr zK zK (ui zK zK zK zK anx (ui zK zK zK zK aC5 (ui zK zK zK zK aB1 (Tk zK zK zK zK aFx))))
theorem aCc:Rd PP 29 (br bc) (A4 Jf):=zj (e:=101) zK zK (by decide) aEx
theorem as2:Rd PP 26 cf Sv:=arq zK
theorem aBn:Rd PP 27 cf Sv:=arq zK
theorem aFg:Rd PP 28 cw Sv:=avc zK
def Qr (s:az):Nat:=mu s.owner+(1+(1+(1+A4 Jf s.data)))+1
theorem aFk:Rd PP 31 ai Qr:=
 Lr zK zK (ui zK zK zK zK Wz (ui zK zK zK zK as2 (ui zK zK zK zK aBn (ui zK zK zK zK aFg (Tk zK zK zK zK aCc)))))
theorem aDq:Rd PP 22 (br ai) (A4 Qr):=zj (e:=31) zK zK (by decide) aFk
def Pq (z:au):Nat:=mu z.origin+A4 Qr z.aj+1
theorem aCz:Rd PP 41 be Pq:=
 Lr zK zK (ui zK zK zK zK Wz (Tk zK zK zK zK aDq))
theorem Jo (n:Name):bp n=mu n:=by
 suffices h:∀ (n:Name) (k:Nat),n.foldl (fun k s=>k+(s.size+1)) k=k+tq Qu n by have:=h n 1;simp only [bp,mu,A4];omega
 intro n
 induction n with
 |nil=>intro k;rfl
 |cons a n ih=>intro k;rw [List.foldl_cons,ih];simp only [tq,Qu];omega
theorem J6 {α:Type} {f μ : α->Nat} {c:Nat} {l:List α} (h:∀ x,f x+1<=c * μ x):gh f l<=c * tq μ l:=by
 induction l with
 |nil=>simp [gh,tq]
 |cons a l ih=>
  have:=h a;simp only [gh,List.foldr_cons,tq,Nat.mul_add] at ih ⊢;omega
theorem anm {α:Type} (l:List α):tq Sv l=l.length:=by
 induction l with
 |nil=>rfl
 |cons a l ih=>simp only [tq,ih,Sv,List.length_cons];omega
theorem aBj (d:cj):An d+1<=3 * Jf d:=by have h1:=J6 (f:=bp) (μ:=mu) (c:=2) (l:=d.names) (fun n=>by rw [Jo];simp only [mu,A4];omega);have h2:=J6 (f:=ByteArray.size) (μ:=Qu) (c:=1) (l:=d.texts) (fun n=>by unfold Qu;omega);have h3:=anm d.nums;have h4:=anm d.raw;simp only [An,Jf,mu,A4] at *;omega
theorem aC3 (s:az):nl s+1<=4 * Qr s:=by have h1:=J6 (f:=An) (μ:=Jf) (c:=3) (l:=s.data) aBj;have h2:=Jo s.owner;simp only [nl,Qr,mu,A4] at *;omega
theorem ana (z:au):O6 z<=4 * Pq z:=by have h1:=J6 (f:=nl) (μ:=Qr) (c:=4) (l:=z.aj) aC3;have h2:=Jo z.origin;simp only [O6,Pq,mu,A4] at *;omega
theorem arh {z:au} (h:Pq z<=1048576):bj z:=by have:=ana z;unfold bj;omega
theorem aq2 {n:Name} (h:mu n<=1048576):ay n:=by unfold ay;rw [Jo];omega
abbrev ad2:di (List Name):=br ak
abbrev Zk:List Name->Nat:=A4 mu
theorem aug {l:List Name} (h:Zk l<=1048576):jq l:=by have h1:=J6 (f:=bp) (μ:=mu) (c:=2) (l:=l) (fun n=>by rw [Jo];simp only [mu,A4];omega);have h2:Zk l=tq mu l+1:=rfl;unfold jq;omega
end
end Go.Proofs.YtgencolcibpcaaaGreat
end
section
namespace Go.Proofs.YtgencolcibpcaaaGreat
open Go.Vm Go.ChangeShapes Go.WideShapes Go.ChangeAt
mutual
theorem V5 {H:Type}:∀ d:DataW H,Rows.uptoBulk d=mg d
 |.lit l=>by cases l<;>simp only [Rows.uptoBulk,mg]
 |.nil=>by simp only [Rows.uptoBulk,mg]
 |.ptr d=>by simp only [Rows.uptoBulk,mg,V5 d]
 |.slice a b=>by simp only [Rows.uptoBulk,mg,M0 a,M0 b]
 |.agg a=>by simp only [Rows.uptoBulk,mg,M0 a]
 |.iface _ d=>by simp only [Rows.uptoBulk,mg,V5 d]
 |.map e=>by simp only [Rows.uptoBulk,mg,aty e]
 |.held _=>by simp only [Rows.uptoBulk,mg]
theorem M0 {H:Type}:∀ l:List (DataW H),Rows.uptoBulkAll l=nh l
 | []=>by simp only [Rows.uptoBulkAll,nh]
 |d::r=>by simp only [Rows.uptoBulkAll,nh,V5 d,M0 r]
theorem aty {H:Type}:∀ l:List (Lit × DataW H),Rows.uptoBulkEntries l=Wv l
 | []=>by simp only [Rows.uptoBulkEntries,Wv]
 |x::r=>by simp only [Rows.uptoBulkEntries,Wv,aDo x,aty r]
theorem aDo {H:Type}:∀ x:Lit × DataW H,Rows.uptoBulkEntry x=ao9 x
 |(l,d)=>by cases l<;>simp only [Rows.uptoBulkEntry,ao9,V5 d]
end
theorem aum {H:Type} {l:List (DataW H)} (h:Rows.uptoSmall H l=true):nh l<=1048576:=by
 have:=of_decide_eq_true h
 rwa [M0] at this
theorem apu {H:Type} {enc:TypeId × Value->H} {C:Checked} {os:Os} {f:FuncId} {fn:Func} {s:OpenSpec} {k:(H:Type)->List (DataW H)->Bool} (hk:s.cond=some k) {conds:List PathCond} {apart:Bool} (modest:Bool) (i:Input) (fuel:Nat)
 (hv:(World.plainHolding C.prog os i).variablesB C.prog=true)
 (hr:((World.plainHolding C.prog os i).heap.toList.drop C.prog.globals.size).take ((begin C.prog (fun _ _=>0) default).world.heap.size - C.prog.globals.size) =
  (begin C.prog (fun _ _=>0) default).world.heap.toList.drop C.prog.globals.size)
 (aB:Input.okWideB C.prog (World.plainHolding C.prog os i) f ⟨#[],i.args,[]⟩=true)
 (hx:(match DataW.whole enc C.prog (World.plainHolding C.prog os i).memory fn.params.toList s.vars apart i.args.toList fuel with
  |some x=>conds.all (PathCond.test C.prog ⟨fn.params.toList,x.1,s.bare.plain.varTypes C.prog,x.2.1⟩) && k H (x.1++x.2.1)
  |none=>false)=true)
 (hsz:s.bare.sizedB enc C.prog fn apart (World.plainHolding C.prog os i).memory i.args fuel=true) :
 ∃ (w:World) (tape:Tape) (i:Input),w.os=os/\(w.forCall tape i).Shaped C.prog/\i.vars=[]/\Input.okWide C.prog (w.forCall tape i) .any w.heap.size f i /\
  s.pre6 enc C.prog fn conds apart (w.forCall tape i).memory i.args/\({ modest:=modest }:Assume).holds C.prog (lone (Frame.enter C.prog f i.args .normal) [] (w.forCall tape i)):=by
 cases hd:DataW.whole enc C.prog (World.plainHolding C.prog os i).memory fn.params.toList s.vars apart i.args.toList fuel with
 |none=>rw [hd] at hx;cases hx
 |some x=>
  rw [hd] at hx;simp only [zzh] at hx;exact OpenSpec.witness hk modest i fuel hv hr aB hd hx.1 hx.2 hsz
end Go.Proofs.YtgencolcibpcaaaGreat
end
section
namespace Go.Proofs.YtgencolcibpcaaaGreat.answerSteps
open Go.Vm Go.ChangeShapes Go.WideShapes Go.ChangeAt
theorem axk (x:au × Name × UInt16 × List Name × Unit) (h:(Pq x.1+(mu x.2.1+(Sv x.2.2.1+(Zk x.2.2.2.1+0))))<=1048576):bf PP 5 ((aC be (aC ak (aC cf (aC ad2 a0)))).E x) (.sc (.bool true)):=
 aAw x _ (by unfold asF;exact if_pos ⟨⟨arh zO,by have h1:=ana x.1;unfold O6 at h1;omega⟩,aq2 zO,aug zO⟩)
theorem own:ownKnob PP.godebug=none:=zK
theorem aAr:PP.underlying 4=some .bool:=zK
theorem lifted (os:Os) (started:os.Started) (H:Type) (enc:TypeId × Value->H) (F:Stop.Interp) :
 ReturnsInHanded {} Tryz.checked os 5 .any ((Rows.OpenSpec.upto Rows.answerStepsSpec).pre6 enc Tryz.prog Tryz.f5 Rows.answerStepsUptoRow.domain false) (((Rows.OpenSpec.upto Rows.answerStepsSpec).at F).post enc Tryz.prog Tryz.f5 false true false false):=by
 refine returnsInHanded_of_cond (C:=Tryz.checked) (k:=Rows.uptoSmall) rfl own started zK Tryz.func5
  (apu (enc:=enc) (C:=Tryz.checked) rfl false ⟨#[],Tryz.f5.params.map fun t=>((PP.info? t).bind (·.zero)).getD undef,[]⟩ 8 zK zK zK zK zK) ?_
 intro W base args ds gs before hval hW _ hk _;exact awi zK zK (acn zK) (tb:=4) zK rfl zK aAr (apd zK)
  (fun H ds hl=>by match ds,(show ds.length=4 from hl) with | [_,_,_,_],_=>rfl) (A:=(aC be (aC ak (aC cf (aC ad2 a0))))) (Ks zK aCz (Ks zK Wz (Ks zK as2 (Ks zK anx (aB7 PP))))) (N:=some 1048576) (fun x hx=>axk x (hx _ rfl)) enc W base args ds gs before hval hW (fun n hn=>by cases hn;exact aum hk)
theorem over:Rows.answerStepsUptoRow.holds Tryz.pinned (Rows.OpenSpec.upto Rows.answerStepsSpec):=
 OpenClaim.holds_of_cond 5 Tryz.f5 rfl rfl rfl rfl rfl rfl rfl ⟨rfl,rfl,rfl,rfl,rfl⟩ rfl rfl rfl rfl rfl zK Tryz.func5 zK
  (of_decide_eq_true zK) (by unfold Func.isWrapper;first|(rw [if_pos (by decide +kernel)];kernel_rfl)|(rw [if_neg (by decide +kernel)];exact ⟨rfl,rfl⟩))
  (fun os started H enc _ F=>lifted os started H enc F)
theorem proved : Rows.AnswerStepsUptoSaid := over
end Go.Proofs.YtgencolcibpcaaaGreat.answerSteps
end
