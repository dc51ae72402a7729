/- Proved: where the arguments are together of bulk at most 1048576, the law ZoneTurns returns true (a zone with a set more, and without one), and what it was given reads afterwards as it did before. No other conditions. -/
import Derived.WalkKit
import Derived.CallsIn
import Derived.RangeFuncIn
import Derived.RangeFuncLeaves
import Derived.Orders
import Derived.OrdersIn
import Derived.Scope
import Derived.RangeFuncOwn
import Derived.Stop.SameAnswer
import Derived.Laws.Externs
import Derived.Lib.Bytealg
import Derived.ProofKit
import Derived.OpenShut
import Derived.ReadAgain
import Derived.Deep.Slices
import Derived.ChangeSame
import Derived.Test.YtgencolcibpcaaaGreatProg
import Derived.KernelRfl
import Derived.Test.YtgencolcibpcaaaGreatRows
import Derived.JoinedCond
import Derived.Test.YtgencolcibpcaaaGreatT5
set_option linter.unusedSimpArgs false
set_option linter.unusedVariables false
set_option linter.unusedSectionVars false
section
namespace Go.Proofs.YtgencolcibpcaaaGreat
open Go.Vm
set_option maxRecDepth 2000000
theorem Jp:∀ (l:List az) {e:Int},e≠0→pj l e=e
 | [],_,_=>rfl
 |s::l,e,h=>by rw [pj,if_neg h];exact Jp l h
theorem Xx:∀ {l:List az},pj l 0=0→∀ s ∈ l,py s=0
 | [],_,s,hs=>by cases hs
 |a::l,h,s,hs=>by
  rw [pj,if_pos rfl] at h
  by_cases h1:py a=0
  ·rw [h1] at h
   rcases List.mem_cons.1 hs with rfl|hs
   ·exact h1
   ·exact Xx h s hs
  ·rw [Jp l h1] at h;exact absurd h h1
theorem azd {z:bp} (h:pj z.ai 0=0):okZ z=true:=by
 unfold okZ
 rw [List.all_eq_true]
 intro s hs
 rw [List.all_eq_true]
 intro d hd
 exact decide_eq_true (amg (Xx h s hs) d hd)
noncomputable def Uf (z:bp):Int:=if du z.origin≠0 then du z.origin else if 2048<kx z.ai then 3 else if pj z.ai 0≠0 then pj z.ai 0 else if allI (g9 z) 0 z.ai=false then 260 else Ds z
theorem aaf (z:bp) (hz:bz z):wl PP [Td,aqk,avt,az1] 0 (Tryz.f28.body.getD .skip) (da PP Tryz.f28.results.toList (fun r st=>(r1 (bh .i64)).get true st.h r=some (Uf z))) (cj 0 [br.val false z]) (bj []):=by
 have hlen:=hz.len
 have hso:gj jh z.ai≤16777216:=by have:=hz;unfold bz sy at this;omega
 have hsum:=I5 z.ai
 unfold Tryz.f28
 simp only [fq]
 simp only [↓wR,RA,simprocAttr,TF,ae,zg,hz.origin.fit]
 unfold Uf
 rw [c9];refine ⟨fun ⟨h1,e1⟩=>?_,fun ⟨h1,e1⟩=>?_⟩
 ·rw [if_pos e1]
  simp only [↓wR,RA,simprocAttr,TF,ae,h1]
 rw [if_neg (by omega)]
 simp only [↓wR,RA,simprocAttr,TF,ae,h1]
 refine c7 [1,4,5] (fun (i:Nat)=>[.ptr 0 0,.sc (.int .i64 ((kx (z.ai.take i)))),.sc (.int .i64 (i))]) (fun _=>[some (.row [.vl false 1 (z.origin.map (aj.val false)),.vl false 5 (z.ai.map (ah.val false))] 0 2 41)]) (fun i=>i≤z.ai.length) (fun i=>z.ai.length - i) 0 (Nat.zero_le _) (by simp only [↓wR,RA,simprocAttr,TF,ae]<;>rfl) (by simp only [↓wR,RA,simprocAttr,TF,ae]<;>rfl) ?_
 intro i hi
 simp only [↓wR,RA,simprocAttr,TF,ae]
 rw [aw];refine ⟨fun h2=>?_,fun h2=>?_⟩
 ·obtain ⟨c,hc,hd1,hlt⟩:=dx (decide_eq_true h2)
  have hst:=Mb z.ai i c hc
  have hcs:=hz.ai.mem c (List.mem_of_getElem? hc)
  have hcl:=hcs.data.len
  have hle:kx (z.ai.take (i+1))≤16777216:=by
   have:=I5 (z.ai.take (i+1))
   have h3:gj jh (z.ai.take (i+1))≤gj jh z.ai:=Rl _ _ _
   omega
  simp only [↓wR,RA,simprocAttr,TF,ae,h2,hc];repeat (simp (disch:=omega) only [ag,bf,bg,be,bb];try simp only [↓wR,RA,simprocAttr,TF,ae,h2,hc])
  refine ⟨i+1,hlt,by omega,?_⟩
  rw [hst]
  (first|rfl|trivial|omega|((try (simp (disch:=omega) only [ag]));(try (simp only [FB]));first|done|rfl|omega))
 have hin:i=z.ai.length:=by omega
 subst hin
 simp only [↓wR,RA,simprocAttr,TF,ae,h2,List.take_length]
 rw [aw];refine ⟨fun h3=>?_,fun h3=>?_⟩
 ·rw [if_pos (by omega)]
  simp only [↓wR,RA,simprocAttr,TF,ae,h3]
 rw [if_neg (by omega)]
 simp only [↓wR,RA,simprocAttr,TF,ae,h3]
 refine c7 [1,6] (fun (i:Nat)=>[.ptr 0 0,.sc (.int .i64 (i))]) (fun _=>[some (.row [.vl false 1 (z.origin.map (aj.val false)),.vl false 5 (z.ai.map (ah.val false))] 0 2 41)]) (fun i=>i≤z.ai.length∧pj z.ai 0=pj (z.ai.drop i) 0) (fun i=>z.ai.length - i) 0 ⟨Nat.zero_le _,rfl⟩ (by simp only [↓wR,RA,simprocAttr,TF,ae]<;>rfl) (by simp only [↓wR,RA,simprocAttr,TF,ae]<;>rfl) ?_
 rintro i ⟨hi,hx⟩
 simp only [↓wR,RA,simprocAttr,TF,ae]
 rw [aw];refine ⟨fun h4=>?_,fun h4=>?_⟩
 ·obtain ⟨c,hc,hd1,hlt⟩:=dx (decide_eq_true h4)
  have hcs:=hz.ai.mem c (List.mem_of_getElem? hc)
  rw [ae5 hd1,if_pos rfl] at hx
  simp only [↓wR,RA,simprocAttr,TF,ae,h4,hc,z7,hcs]
  rw [c9];refine ⟨fun ⟨h5,e5⟩=>?_,fun ⟨h5,e5⟩=>?_⟩
  ·rw [Jp _ e5] at hx
   rw [hx,if_pos e5]
   simp only [↓wR,RA,simprocAttr,TF,ae,h5]
  ·have e5':py c=0:=by omega
   rw [e5'] at hx
   simp only [↓wR,RA,simprocAttr,TF,ae,h5];repeat (simp (disch:=omega) only [ag,bf,bg,be,bb];try simp only [↓wR,RA,simprocAttr,TF,ae,h5])
   exact ⟨i+1,⟨hlt,hx⟩,by omega,by (first|rfl|trivial|omega|((try (simp (disch:=omega) only [ag]));(try (simp only [FB]));first|done|rfl|omega))⟩
 ·rw [fl (decide_eq_false h4)] at hx
  have hx':pj z.ai 0=0:=hx
  rw [hx',if_neg (by simp)]
  have hok:=azd hx'
  simp only [↓wR,RA,simprocAttr,TF,ae,h4,Dd,hz,hok]
  cases ho:allI (g9 z) 0 z.ai with
  |false=>
   rw [if_pos rfl]
   simp only [↓wR,RA,simprocAttr,TF,ae]
   try rfl
  |true=>
   rw [if_neg (by decide)]
   simp only [↓wR,RA,simprocAttr,TF,ae,Hz,hz]
   try rfl
def nx (b:Bool) (err e:Int):Int:=if e≠0 then e else if b=true then 0 else err
theorem Rm (b:Bool) (err e:Int):dh b err e=nx b err e:=by
 unfold dh nx
 cases b<;>by_cases h:e=0<;>simp [h]
theorem ya {err:Int} (he:err≠0) (p:Nat→az→Bool):∀ (l:List az) (i:Nat) (e:Int),gn err p i l e=nx (allI p i l) err e
 | [],i,e=>by rw [gn,allI,nx];by_cases h:e=0<;>simp [h]
 |s::l,i,e=>by
  rw [gn,allI]
  by_cases h:e=0
  ·subst h
   rw [if_neg (by simp),ya he p l (i+1),Rm]
   unfold nx
   cases p i s<;>simp [he]
  ·rw [if_pos h];unfold nx;rw [if_pos h]
theorem z8 (q:az→Bool):∀ (l:List az) (i:Nat),allI (fun _ s=>q s) i l=l.all q
 | [],_=>rfl
 |s::l,i=>by rw [allI,z8 q l,List.all_cons]
theorem Va {i:Nat} {n:Name}:∀ (l:List az) (k:Nat),i<k→tf i n k l=l.any (fun s=>er s.owner n)
 | [],_,_=>rfl
 |o::l,k,h=>by rw [tf,Va l (k+1) (by omega),decide_eq_true (by omega),Bool.true_and,List.any_cons]
theorem any_filter {q:az→Bool} (l:List az):l.any q=decide (0<(l.filter q).length):=by
 induction l with
 |nil=>rfl
 |cons a l ih=>rw [List.any_cons,List.filter_cons];cases q a<;>simp [ih]
theorem agy {n:Name}:∀ (l:List az) (j k:Nat) {s:az},l[j]? = some s→er s.owner n=true→tf (k+j) n k l=decide (1<(l.filter (fun s=>er s.owner n)).length)
 | [],j,k,s,h,_=>by simp at h
 |o::l,0,k,s,h,hs=>by
  rw [List.getElem?_cons_zero] at h
  cases h
  rw [tf,decide_eq_false (by simp),Bool.false_and,Bool.false_or,Va l (k+1) (by omega),any_filter,List.filter_cons,if_pos hs,List.length_cons,decide_eq_decide]
  omega
 |o::l,j+1,k,s,h,hs=>by
  rw [List.getElem?_cons_succ] at h
  have ih:=agy l j (k+1) h hs
  rw [show k+1+j=k+(j+1) by omega] at ih
  rw [tf,ih,decide_eq_true (by omega),Bool.true_and,List.filter_cons]
  have hp : 0<(l.filter (fun s=>er s.owner n)).length:=List.length_pos_of_mem (List.mem_filter.2 ⟨List.mem_of_getElem? h,hs⟩)
  cases ho:er o.owner n
  ·simp
  ·rw [if_pos rfl,List.length_cons,Bool.true_or,decide_eq_true (by omega)]
theorem aoo (n:Name):er n n=true:=by unfold er;exact decide_eq_true rfl
theorem ahx {z:bp} {i:Nat} {s:az} (h:z.ai[i]? = some s):jz z i s = !mr z s:=by
 unfold jz mr Vo
 have ho:=agy z.ai i 0 h (aoo s.owner)
 rw [Nat.zero_add] at ho
 rw [ho]
 by_cases h1:(s.type.toNat:Int)=5
 ·rw [if_neg (by simpa using h1),decide_eq_true h1,Bool.true_and]
  by_cases h2:(s.data.length:Int)=1
  ·simp only [h2,ne_eq,not_true_eq_false,decide_false,Bool.false_or,if_false]
   cases er s.owner z.origin
   ·rw [if_neg (by simp),Bool.false_or]
    congr 1
    rw [decide_eq_decide]
    omega
   ·rw [if_pos rfl,Bool.true_or];rfl
  ·rw [if_pos h2,decide_eq_true h2,Bool.true_or];rfl
 ·rw [if_pos h1,decide_eq_false h1,Bool.false_and];rfl
theorem adf {p:Nat→az→Bool} {q:az→Bool}:∀ (l:List az) (k:Nat),(∀ j s,l[j]? = some s→p (k+j) s = !q s)→allI p k l = !l.any q
 | [],_,_=>rfl
 |s::l,k,h=>by
  rw [allI,List.any_cons,adf l (k+1) (fun j s' hj=>by rw [show k+1+j=k+(j+1) by omega];exact h (j+1) s' (by rw [List.getElem?_cons_succ];exact hj))]
  have:=h 0 s rfl
  rw [Nat.add_zero] at this
  rw [this,Bool.not_or]
def Og (s:az):Bool:=decide ((s.type.toNat:Int)=6)
def Ut (z:bp) (s:az):Bool:=decide ((s.type.toNat:Int)=6) && (er s.owner z.origin && decide ((s.data.length:Int)=1))
theorem Yp (z:bp):∀ (l:List az) (p:Nat × Nat),l.foldl (nj z) p=(p.1+l.countP Og,p.2+l.countP (Ut z))
 | [],p=>rfl
 |s::l,p=>by
  rw [List.foldl_cons,Yp z l,List.countP_cons,List.countP_cons]
  unfold nj Og Ut
  by_cases h:(s.type.toNat:Int)=6
  ·rw [if_pos h,decide_eq_true h,Bool.true_and,if_pos rfl]
   dsimp only
   congr 1
   ·omega
   ·split<;>omega
  ·rw [if_neg h,decide_eq_false h,Bool.false_and,if_neg (by simp)];rfl
theorem apd (z:bp) (l:List az):l.countP Og=l.countP (Ut z)+l.countP (wg z):=by
 induction l with
 |nil=>rfl
 |cons s l ih=>
  rw [List.countP_cons,List.countP_cons,List.countP_cons,ih]
  unfold Og Ut wg
  cases decide ((s.type.toNat:Int)=6)<;>cases er s.owner z.origin<;>by_cases h:(s.data.length:Int)=1<;>simp [h]<;>omega
theorem atg (z:bp):(decide ((gz z).1=1) && decide ((gz z).2=1)) = !(z.ai.any (wg z) || decide ((vk z z.ai.length:Int)≠1)):=by
 have h1:gz z=(z.ai.countP Og,z.ai.countP (Ut z)):=by unfold gz;rw [Yp];simp
 have h2:vk z z.ai.length=z.ai.countP Og:=by unfold vk;rw [List.take_length,List.countP_eq_length_filter];rfl
 have h3:=apd z z.ai
 have h4:z.ai.any (wg z)=decide (0<z.ai.countP (wg z)):=by rw [any_filter,List.countP_eq_length_filter]
 rw [h1,h2,h4,← Bool.decide_and,← Bool.decide_or,← decide_not,decide_eq_decide]
 dsimp only
 omega
theorem auk (b2 b3 b4 b5 b6 b7 b8:Bool):Iw [!b2,!b3,!b4,!b5,!b6,!b7,!b8] [261,262,263,264,265,266,267]=nx b8 267 (nx b7 266 (nx b6 265 (nx b5 264 (nx b4 263 (nx b3 262 (nx b2 261 0)))))):=by
 cases b2<;>cases b3<;>cases b4<;>cases b5<;>cases b6<;>cases b7<;>cases b8<;>rfl
theorem O7 {q:az→Bool} (l:List az):l.any (fun s=>!q s) = !l.all q:=by rw [List.all_eq_not_any_not,Bool.not_not]
theorem aue (z:bp):Ul z=if xn z≠0 then xn z else Ds z:=by
 have h2:Fx z=nx (z.ai.all kq) 261 (xn z):=by unfold Fx;rw [ya (by decide),z8]
 have h3:o9 z=nx (z.ai.all fun s=>gq s.owner z.origin) 262 (Fx z):=by unfold o9;rw [ya (by decide),z8]
 have h4:ly z=nx (!(z.ai.any (wg z) || decide ((vk z z.ai.length:Int)≠1))) 263 (o9 z):=by unfold ly;rw [Rm,atg]
 have h5:xl z=nx (z.ai.any (uv z)) 264 (ly z):=by unfold xl;rw [Rm];rfl
 have h6:xo z=nx (!z.ai.any (mr z)) 265 (xl z):=by
  unfold xo
  rw [ya (by decide),adf (q:=mr z) z.ai 0 (fun j s hj=>by rw [Nat.zero_add];exact ahx hj)]
 have h7:Dq z=nx (z.ai.all jy) 266 (xo z):=by unfold Dq;rw [ya (by decide),z8]
 have h8:Ul z=nx (z.ai.all (mc z)) 267 (Dq z):=by unfold Ul;rw [ya (by decide),z8]
 have hr:Ds z=nx (z.ai.all (mc z)) 267 (nx (z.ai.all jy) 266 (nx (!z.ai.any (mr z)) 265 (nx (z.ai.any (uv z)) 264 (nx (!(z.ai.any (wg z) || decide ((vk z z.ai.length:Int)≠1))) 263 (nx (z.ai.all fun s=>gq s.owner z.origin) 262 (nx (z.ai.all kq) 261 0)))))):=by
  rw [← auk,Bool.not_not,Bool.not_not]
  unfold Ds ag6
  rw [show z.ai.any Fw = !z.ai.all kq from O7 _,show z.ai.any (Fk z) = !z.ai.all (fun s=>gq s.owner z.origin) from O7 _,show z.ai.any Fo = !z.ai.all jy from O7 _,show z.ai.any (Fy z) = !z.ai.all (mc z) from O7 _]
 rw [h8,h7,h6,h5,h4,h3,h2,hr]
 by_cases h:xn z=0
 ·rw [h,if_neg (by simp)]
 ·rw [if_pos h]
  unfold nx
  simp only [ne_eq,h,not_false_eq_true,if_true]
theorem aqs (z:bp):Uf z=lg z:=by
 unfold Uf lg
 by_cases h1:du z.origin=0
 case neg=>
  have:qu z=du z.origin:=by unfold qu;rw [if_pos h1]
  rw [if_pos h1,this,if_pos h1]
 rw [if_neg (by simpa using h1)]
 have hf:qu z=pj z.ai (dh (decide (kx z.ai≤2048)) 3 0):=by unfold qu;rw [if_neg (by simpa using h1)]
 by_cases h2 : 2048<kx z.ai
 ·rw [decide_eq_false (by omega)] at hf
  have:qu z=3:=by rw [hf];exact Jp _ (by decide)
  rw [if_pos h2,this,if_pos (by decide)]
 rw [if_neg h2]
 rw [decide_eq_true (by omega)] at hf
 have hf:qu z=pj z.ai 0:=hf
 rw [hf]
 by_cases h3:pj z.ai 0=0
 case neg=>rw [if_pos h3,if_pos h3]
 have h3':¬ pj z.ai 0≠0:=fun h=>h h3
 rw [if_neg h3',if_neg h3',aue]
 have he:xn z=nx (allI (g9 z) 0 z.ai) 260 0:=by unfold xn;rw [ya (by decide),hf,h3]
 rw [he]
 cases allI (g9 z) 0 z.ai
 ·rfl
 ·rfl
noncomputable def sr (x:bp × Unit):Option AV:=if bz x.1 then some ((r1 (bh .i64)).E true (lg x.1)) else none
set_option maxRecDepth 2000000 in
theorem zz (x:bp × Unit) (r:AV) (h:sr x=some r):bk PP 28 ((aC br a0).E x) r:=by
 by_cases hc:bz x.1
 case neg=>simp only [sr,if_neg hc] at h;cases h
 simp only [sr,if_pos hc] at h
 cases h
 exact ay (ar.cons (ak Cu) (ar.cons (ak Xc) (ar.cons (ak aay) (ar.cons (ak ah4) (ar.nil PP))))) Tryz.func28 (by kernel_rfl) (by kernel_rfl) (by kernel_rfl) (Nat.le_of_ble_eq_true (by kernel_rfl)) (r1 (bh .i64)) true (lg x.1) ((by rw [← aqs];exact aaf x.1 hc))
noncomputable abbrev J7:Nat × Bool × (List AV→M AV):=(28,true,c8 (aC br a0) sr)
theorem Gt (l:Name):AV.fresh.go (l.map (aj.val false))=true:=Ak (fun c hc=>by obtain ⟨x,_,rfl⟩:=List.mem_map.1 hc;exact Mw aj x)
theorem Ek (l:List az):AV.fresh.go (l.map (ah.val true))=true:=Ak (fun c hc=>by obtain ⟨x,_,rfl⟩:=List.mem_map.1 hc;exact Mw ah x)
theorem af4 {α:Type} {μ : α→Nat} {l r:List α} (h:l.Perm r):gj μ l=gj μ r:=by
 induction h with
 |nil=>rfl
 |cons a _ ih=>simp only [gj,List.foldr_cons] at ih ⊢;rw [ih]
 |swap a b l=>simp only [gj,List.foldr_cons];omega
 |trans _ _ i j=>exact i.trans j
theorem ayg {α:Type} {μ : α→Nat} {f : α → α} (h:∀ x,μ (f x) = μ x) (l:List α):gj μ (l.map f)=gj μ l:=by
 induction l with
 |nil=>rfl
 |cons a l ih=>simp only [gj,List.map_cons,List.foldr_cons] at ih ⊢;rw [ih,h]
theorem Zw (s:az):jh (dj s)=jh s:=by
 unfold dj
 split
 ·unfold jh
  show _=_
  have:=af4 (μ:=Ba) (Ej (lt:=eh s.type) s.data)
  simp only [apx,atx] at *
  first|omega|rw [this]
 ·rfl
noncomputable def sx (l:List az):List az:=(dg dy l).map dj
theorem ajs (l:List az):gj jh (sx l)=gj jh l:=by
 unfold sx
 rw [ayg Zw,af4 (Ej l)]
noncomputable def Cy (n:Name) (l:List az):bp × Int:=if lg (tp n (sx l))=0 then (tp n (sx l),0) else (tp [] [],lg (tp n (sx l)))
theorem ax4 (n:Name) (l:List az) (hw:ca n+gj jh l≤16777216) (hl:l.length≤1048576) (hd:∀ s ∈ l,s.data.length≤1048576):wl PP [Be,aAg,ays,ag8] 0 (Tryz.f102.body.getD .skip) (da PP Tryz.f102.results.toList (fun r st=>(r2 br (bh .i64)).get true st.h r=some (Cy n l))) (cj 0 [au.val false n,(cq ah).val false l]) (bj []):=by
 have hq:∀ a b c d,dz a b c=d→dz a b c=d:=fun _ _ _ _ h=>h
 have hn:bw n:=by unfold bw;omega
 have hsl:si l:=by unfold si;omega
 have hm:qd l:=⟨Nat.le_trans hl (by decide),hsl.mem⟩
 obtain ⟨L,hL⟩:∃ L,L=dg dy l:=⟨_,rfl⟩
 have hLl:L.length=l.length:=by rw [hL,ed]
 have hLm:∀ s ∈ L,cd s∧s.data.length≤1048576:=fun s h=>by rw [hL,ju] at h;exact ⟨hsl.mem s h,hd s h⟩
 have hz:bz (tp n (L.map dj)):=by
  have:=ajs l
  unfold sx at this
  rw [← hL] at this
  show ca n+gj jh (L.map dj)≤16777216
  omega
 have hmv:Cy n l=if lg (tp n (L.map dj))=0 then (tp n (L.map dj),0) else (tp [] [],lg (tp n (L.map dj))):=by unfold Cy sx;rw [← hL]
 rw [hmv]
 unfold Tryz.f102
 simp only [cr]
 simp only [↓wR,RA,simprocAttr,TF,ae,qn,hn,Ht,hm,hl,← hL]
 refine fj [4,14,15,16,6] (fun (i:Nat)=>[.ptr 0 0,.vl true 5 (L.map (ah.val true)),.sc (.int .i64 (L.length)),.sc (.int .i64 (i)),.ptr 1 0]) (fun i=>[some (.row [.sc (.slice none 0 0),.sc (.slice none 0 0)] 0 2 41),some (.row [au.val true n,.sl 2 0 i 5] 0 2 41),some (.row (cellsOf ah true (((L.take i).map dj))) 0 0 31)]) (fun i=>i≤L.length) (fun i=>L.length - i) 0 (Nat.zero_le _) (by simp only [↓wR,RA,simprocAttr,TF,ae];(refine ji.lax [] (by first|exact Nat.le_of_ble_eq_true rfl|(simp [dk];omega)) ?_ ?_<;>repeat' first|exact ef.nil|exact b9.nil|exact fe.same _|exact fe.nil _ _ _|exact fe.lu _ _|exact b9.refl _ _|apply ef.cons|apply b9.ghost|apply b9.same|apply b9.row)) ?_
 intro i hi
 simp only [↓wR,RA,simprocAttr,TF,ae]
 rw [aw];refine ⟨fun h=>?_,fun h=>?_⟩
 ·obtain ⟨c,hc,hd1,hlt⟩:=dx (decide_eq_true h)
  obtain ⟨c1,c2⟩:=hLm c (List.mem_of_getElem? hc)
  have hlen:((L.take i).map dj).length=i:=by rw [List.length_map,List.length_take];omega
  have hlim:(i * 5+5) * 64≤140737488355328:=by omega
  have hnx:(L.take (i+1)).map dj=(L.take i).map dj++[dj c]:=by rw [iu hc,List.map_append];rfl
  simp only [↓wR,RA,simprocAttr,TF,ae,h,hc]
  refine ⟨by kernel_rfl,.inl ?_⟩
  simp only [↓wR,RA,simprocAttr,TF,ae,B2,c1,c2,hlen,hlim];repeat (simp (disch:=omega) only [ag,bf,bg,be,bb];try simp only [↓wR,RA,simprocAttr,TF,ae,B2,c1,c2,hlen,hlim])
  refine ⟨by apply hq;kernel_rfl,i+1,hlt,by omega,by (first|rfl|trivial|omega|((try (simp (disch:=omega) only [ag]));(try (simp only [FB]));first|done|rfl|omega)),?_⟩
  rw [hnx,gh]
 ·have hin:i=L.length:=by omega
  subst hin
  rw [List.take_length]
  simp only [↓wR,RA,simprocAttr,TF,ae,h,Bu,hz]
  rw [c9];refine ⟨fun ⟨h2,e2⟩=>?_,fun ⟨h2,e2⟩=>?_⟩
  ·rw [if_neg e2]
   simp only [↓wR,RA,simprocAttr,TF,ae,h2]
   try rfl
  ·rw [if_pos (by omega)]
   simp only [↓wR,RA,simprocAttr,TF,ae,h2]
   try rfl
noncomputable def Ip (x:Name × List az × Unit):Option AV:=if ca x.1+gj jh x.2.1≤16777216∧x.2.1.length≤1048576∧∀ s ∈ x.2.1,s.data.length≤1048576 then some ((r2 br (bh .i64)).E true (Cy x.1 x.2.1)) else none
set_option maxRecDepth 2000000 in
theorem Uz (x:Name × List az × Unit) (r:AV) (h:Ip x=some r):bk PP 102 ((aC au (aC (cq ah) a0)).E x) r:=by
 by_cases hc:ca x.1+gj jh x.2.1≤16777216∧x.2.1.length≤1048576∧∀ s ∈ x.2.1,s.data.length≤1048576
 case neg=>simp only [Ip,if_neg hc] at h;cases h
 simp only [Ip,if_pos hc] at h
 cases h
 exact ay (ar.cons (ak ri) (ar.cons (ak ahl) (ar.cons (ak agn) (ar.cons (ak Hp) (ar.nil PP))))) Tryz.func102 (by kernel_rfl) (by kernel_rfl) (by kernel_rfl) (Nat.le_of_ble_eq_true (by kernel_rfl)) (r2 br (bh .i64)) true (Cy x.1 x.2.1) (ax4 x.1 x.2.1 hc.1 hc.2.1 hc.2.2)
noncomputable abbrev av1:Nat × Bool × (List AV→M AV):=(102,true,c8 (aC au (aC (cq ah) a0)) Ip)
noncomputable def gm (n:Name) (t c:Int) (s:az):Bool:=!(decide ((s.type.toNat:Int)=t) && (decide ((s.cls.toNat:Int)=c) && er s.owner n))
noncomputable def vv (z:bp) (s:az):bp × Int:=if lg z=0 then Cy z.origin (z.ai.filter (gm s.owner s.type.toNat s.cls.toNat)++[s]) else (tp [] [],lg z)
theorem Ed {l:List az} {p:az→Bool} {i:Nat} {c:az} (h:l[i]? = some c):(l.take (i+1)).filter p=if p c=true then (l.take i).filter p++[c] else (l.take i).filter p:=by
 rw [iu h,List.filter_append]
 cases hp:p c<;>simp [hp]
theorem u2 {α:Type} (μ : α→Nat) (p : α→Bool) (l:List α):gj μ (l.filter p)≤gj μ l:=by
 induction l with
 |nil=>simp
 |cons a l ih=>
  rw [List.filter_cons]
  split<;>simp only [gj,List.foldr_cons] at * <;> omega
theorem Rv {α:Type} (μ : α→Nat) (l r:List α):gj μ (l++r)=gj μ l+gj μ r:=by
 induction l with
 |nil=>simp [gj]
 |cons a l ih=>simp only [gj,List.cons_append,List.foldr_cons] at *;omega
theorem axe (z:bp) (s:az) (hw:sy z+jh s<16777216) (hl:z.ai.length<1048576) (hd:(∀ x ∈ z.ai,x.data.length≤1048576)∧s.data.length≤1048576):wl PP [fw,ag8,av1] 0 (Tryz.f47.body.getD .skip) (da PP Tryz.f47.results.toList (fun r st=>(r2 br (bh .i64)).get true st.h r=some (vv z s))) (cj 0 [br.val false z,ah.val false s]) (bj []):=by
 have hq:∀ a b c d,dz a b c=d→dz a b c=d:=fun _ _ _ _ h=>h
 have hz:bz z:=by unfold bz;omega
 have hs:cd s:=by unfold cd;omega
 obtain ⟨p,hp⟩:∃ p,p=gm s.owner s.type.toNat s.cls.toNat:=⟨_,rfl⟩
 unfold Tryz.f47
 simp only [fq,fu]
 unfold vv
 rw [← hp]
 simp only [↓wR,RA,simprocAttr,TF,ae,Bu,hz]
 rw [c9];refine ⟨fun ⟨h2,e2⟩=>?_,fun ⟨h2,e2⟩=>?_⟩
 ·rw [if_neg e2]
  simp only [↓wR,RA,simprocAttr,TF,ae,h2]
  try rfl
 rw [if_pos (by omega)]
 simp only [↓wR,RA,simprocAttr,TF,ae,h2]
 refine fj [2,3,4,17,18,19,7] (fun (i:Nat)=>[.ptr 0 0,.ptr 1 0,.ptr 2 0,.vl false 5 (z.ai.map (ah.val false)),.sc (.int .i64 (z.ai.length)),.sc (.int .i64 (i)),.sl 3 0 ((z.ai.take i).filter p).length 5]) (fun i=>[some (.row [.vl false 1 (z.origin.map (aj.val false)),.vl false 5 (z.ai.map (ah.val false))] 0 2 41),some (.row [.vl false 1 (s.owner.map (aj.val false)),.sc (.int .u16 s.type.toNat),.sc (.int .u16 s.cls.toNat),.sc (.int .u32 s.ey.toNat),.vl false 4 (s.data.map (aq.val false))] 0 2 31),some (.row [.sc (.slice none 0 0),.sc (.slice none 0 0)] 0 2 41),some (.row (cellsOf ah false (((z.ai.take i).filter p))) 0 0 31)]) (fun i=>i≤z.ai.length) (fun i=>z.ai.length - i) 0 (Nat.zero_le _) (by simp only [↓wR,RA,simprocAttr,TF,ae];(refine ji.lax [] (by first|exact Nat.le_of_ble_eq_true rfl|(simp [dk];omega)) ?_ ?_<;>repeat' first|exact ef.nil|exact b9.nil|exact fe.same _|exact fe.nil _ _ _|exact fe.lu _ _|exact b9.refl _ _|apply ef.cons|apply b9.ghost|apply b9.same|apply b9.row)) ?_
 intro i hi
 simp only [↓wR,RA,simprocAttr,TF,ae]
 rw [aw];refine ⟨fun h=>?_,fun h=>?_⟩
 ·obtain ⟨c,hc,hd1,hlt⟩:=dx (decide_eq_true h)
  have hcs:=hz.set c (List.mem_of_getElem? hc)
  have hfl:=List.length_filter_le p (z.ai.take i)
  rw [List.length_take] at hfl
  have hnx:=Ed (p:=p) hc
  have hlim:(((z.ai.take i).filter p).length * 5+5) * 64≤140737488355328:=by omega
  have no:p c=false→∃ y,y≤z.ai.length∧z.ai.length - y<z.ai.length - i∧((z.ai.take y).filter p)=(z.ai.take i).filter p∧y=i+1:=fun q=>⟨i+1,hlt,by omega,by rw [hnx,if_neg (by rw [q];decide)],rfl⟩
  have done1:p c=true→(z.ai.take (i+1)).filter p=(z.ai.take i).filter p++[c]:=fun q=>by rw [hnx,if_pos q]
  have done0:p c=false→(z.ai.take (i+1)).filter p=(z.ai.take i).filter p:=fun q=>by rw [hnx,if_neg (by rw [q];decide)]
  by_cases e1:(c.type.toNat:Int)=s.type.toNat
  ·have b1:((c.type.toNat:Int) != s.type.toNat)=false:=by simp [e1]
   by_cases e3:(c.cls.toNat:Int)=s.cls.toNat
   ·have b2:((c.cls.toNat:Int) != s.cls.toNat)=false:=by simp [e3]
    cases e4:er c.owner s.owner with
    |true=>
     have pc:p c=false:=by rw [hp];unfold gm;rw [decide_eq_true e1,decide_eq_true e3,e4];rfl
     simp only [↓wR,RA,simprocAttr,TF,ae,h,hc,b1,b2,jr,hcs.owner,hs.owner,e4];repeat (simp (disch:=omega) only [ag,bf,bg,be,bb];try simp only [↓wR,RA,simprocAttr,TF,ae,h,hc,b1,b2,jr,hcs.owner,hs.owner,e4])
     exact ⟨i+1,hlt,by rw [done0 pc];exact ⟨by omega,by (first|rfl|trivial|omega|((try (simp (disch:=omega) only [ag]));(try (simp only [FB]));first|done|rfl|omega))⟩⟩
    |false=>
     have pc:p c=true:=by rw [hp];unfold gm;rw [decide_eq_true e1,decide_eq_true e3,e4];rfl
     simp only [↓wR,RA,simprocAttr,TF,ae,h,hc,b1,b2,jr,hcs.owner,hs.owner,e4,hlim];repeat (simp (disch:=omega) only [ag,bf,bg,be,bb];try simp only [↓wR,RA,simprocAttr,TF,ae,h,hc,b1,b2,jr,hcs.owner,hs.owner,e4,hlim])
     exact ⟨i+1,hlt,by omega,by rw [done1 pc,List.length_append];(first|rfl|trivial|omega|((try (simp (disch:=omega) only [ag]));(try (simp only [FB]));first|done|rfl|omega)),by rw [done1 pc,gh]⟩
   ·have b2:((c.cls.toNat:Int) != s.cls.toNat)=true:=by simp [e3]
    have pc:p c=true:=by rw [hp];unfold gm;rw [decide_eq_true e1,decide_eq_false e3];rfl
    simp only [↓wR,RA,simprocAttr,TF,ae,h,hc,b1,b2,hlim];repeat (simp (disch:=omega) only [ag,bf,bg,be,bb];try simp only [↓wR,RA,simprocAttr,TF,ae,h,hc,b1,b2,hlim])
    exact ⟨i+1,hlt,by omega,by rw [done1 pc,List.length_append];(first|rfl|trivial|omega|((try (simp (disch:=omega) only [ag]));(try (simp only [FB]));first|done|rfl|omega)),by rw [done1 pc,gh]⟩
  ·have b1:((c.type.toNat:Int) != s.type.toNat)=true:=by simp [e1]
   have pc:p c=true:=by rw [hp];unfold gm;rw [decide_eq_false e1];rfl
   simp only [↓wR,RA,simprocAttr,TF,ae,h,hc,b1,hlim];repeat (simp (disch:=omega) only [ag,bf,bg,be,bb];try simp only [↓wR,RA,simprocAttr,TF,ae,h,hc,b1,hlim])
   exact ⟨i+1,hlt,by omega,by rw [done1 pc,List.length_append];(first|rfl|trivial|omega|((try (simp (disch:=omega) only [ag]));(try (simp only [FB]));first|done|rfl|omega)),by rw [done1 pc,gh]⟩
 ·have hin:i=z.ai.length:=by omega
  subst hin
  rw [List.take_length]
  have hfl:=List.length_filter_le p z.ai
  have hlim:((z.ai.filter p).length * 5+5) * 56≤140737488355328:=by omega
  have hmw:ca z.origin+gj jh (z.ai.filter p++[s])≤16777216:=by
   have h1:=u2 jh p z.ai
   have h2:=Rv jh (z.ai.filter p) [s]
   have h3:gj jh [s]=jh s+1:=by simp [gj]
   unfold sy at hw
   omega
  have hml:(z.ai.filter p++[s]).length≤1048576:=by rw [List.length_append,List.length_singleton];omega
  have hmd:∀ x ∈ z.ai.filter p++[s],x.data.length≤1048576:=fun x hx=>by
   rcases List.mem_append.1 hx with q|q
   ·exact hd.1 x (List.mem_filter.1 q).1
   ·simp at q;subst q;exact hd.2
  have hdec:∀ h k st et,kj ah false h 0 ((z.ai.filter p).length+1) (.row (cellsOf ah false (z.ai.filter p)++[.vl false 1 (s.owner.map (aj.val false)),.sc (.int .u16 s.type.toNat),.sc (.int .u16 s.cls.toNat),.sc (.int .u32 s.ey.toNat),.vl false 4 (s.data.map (aq.val false))]) k st et)=some (z.ai.filter p++[s]):=fun h k st et=>by
   rw [← gh]
   exact ku ah false h false (z.ai.filter p++[s]) k st et _ (by rw [List.length_append];rfl) rfl rfl
  simp only [↓wR,RA,simprocAttr,TF,ae,h,hlim]
  refine ⟨by kernel_rfl,.inl ?_⟩
  have hml2:(z.ai.filter p).length≤1048575:=by omega
  simp only [↓wR,RA,simprocAttr,TF,ae,Ip,hdec,hmw,hml,hml2,eq_true hmd,Gt,Ek]
  apply hq;kernel_rfl
noncomputable def Mj (x:bp × az × Unit):Option AV:=if sy x.1+jh x.2.1<16777216∧x.1.ai.length<1048576∧(∀ s ∈ x.1.ai,s.data.length≤1048576)∧x.2.1.data.length≤1048576 then some ((r2 br (bh .i64)).E true (vv x.1 x.2.1)) else none
set_option maxRecDepth 2000000 in
theorem anv (x:bp × az × Unit) (r:AV) (h:Mj x=some r):bk PP 47 ((aC br (aC ah a0)).E x) r:=by
 by_cases hc:sy x.1+jh x.2.1<16777216∧x.1.ai.length<1048576∧(∀ s ∈ x.1.ai,s.data.length≤1048576)∧x.2.1.data.length≤1048576
 case neg=>simp only [Mj,if_neg hc] at h;cases h
 simp only [Mj,if_pos hc] at h
 cases h
 exact ay (ar.cons (ak pv) (ar.cons (ak Hp) (ar.cons (ak Uz) (ar.nil PP)))) Tryz.func47 (by kernel_rfl) (by kernel_rfl) (by kernel_rfl) (Nat.le_of_ble_eq_true (by kernel_rfl)) (r2 br (bh .i64)) true (vv x.1 x.2.1) (axe x.1 x.2.1 hc.1 hc.2.1 hc.2.2)
noncomputable abbrev awl:Nat × Bool × (List AV→M AV):=(47,true,c8 (aC br (aC ah a0)) Mj)
noncomputable def nd (z:bp) (n:Name) (t:UInt16):bp × Int:=
 if lg z=0 then (if (z.ai.filter (gm n t.toNat 1)).length=z.ai.length then (tp [] [],9) else Cy z.origin (z.ai.filter (gm n t.toNat 1))) else (tp [] [],lg z)
theorem ann (z:bp) (n:Name) (t:UInt16) (hz:bz z) (hn:bw n) (hl:z.ai.length<1048576) (hd:∀ x ∈ z.ai,x.data.length≤1048576):wl PP [fw,ag8,av1] 0 (Tryz.f49.body.getD .skip) (da PP Tryz.f49.results.toList (fun r st=>(r2 br (bh .i64)).get true st.h r=some (nd z n t))) (cj 0 [br.val false z,au.val false n,cg.val false t]) (bj []):=by
 have hq:∀ a b c d,dz a b c=d→dz a b c=d:=fun _ _ _ _ h=>h
 obtain ⟨p,hp⟩:∃ p,p=gm n t.toNat 1:=⟨_,rfl⟩
 unfold Tryz.f49
 simp only [fq,cr]
 unfold nd
 rw [← hp]
 simp only [↓wR,RA,simprocAttr,TF,ae,Bu,hz]
 rw [c9];refine ⟨fun ⟨h2,e2⟩=>?_,fun ⟨h2,e2⟩=>?_⟩
 ·rw [if_neg e2]
  simp only [↓wR,RA,simprocAttr,TF,ae,h2]
  try rfl
 rw [if_pos (by omega)]
 simp only [↓wR,RA,simprocAttr,TF,ae,h2]
 refine fj [1,2,3,6,19,20,21,9] (fun (i:Nat)=>[.vl false 1 (n.map (aj.val false)),.sc (.int .u16 t.toNat),.ptr 0 0,.ptr 1 0,.vl false 5 (z.ai.map (ah.val false)),.sc (.int .i64 (z.ai.length)),.sc (.int .i64 (i)),.sl 2 0 ((z.ai.take i).filter p).length 5]) (fun i=>[some (.row [.vl false 1 (z.origin.map (aj.val false)),.vl false 5 (z.ai.map (ah.val false))] 0 2 41),some (.row [.sc (.slice none 0 0),.sc (.slice none 0 0)] 0 2 41),some (.row (cellsOf ah false (((z.ai.take i).filter p))) 0 0 31)]) (fun i=>i≤z.ai.length) (fun i=>z.ai.length - i) 0 (Nat.zero_le _) (by simp only [↓wR,RA,simprocAttr,TF,ae];(refine ji.lax [] (by first|exact Nat.le_of_ble_eq_true rfl|(simp [dk];omega)) ?_ ?_<;>repeat' first|exact ef.nil|exact b9.nil|exact fe.same _|exact fe.nil _ _ _|exact fe.lu _ _|exact b9.refl _ _|apply ef.cons|apply b9.ghost|apply b9.same|apply b9.row)) ?_
 intro i hi
 simp only [↓wR,RA,simprocAttr,TF,ae]
 rw [aw];refine ⟨fun h=>?_,fun h=>?_⟩
 ·obtain ⟨c,hc,hd1,hlt⟩:=dx (decide_eq_true h)
  have hcs:=hz.set c (List.mem_of_getElem? hc)
  have hfl:=List.length_filter_le p (z.ai.take i)
  rw [List.length_take] at hfl
  have hnx:=Ed (p:=p) hc
  have hlim:(((z.ai.take i).filter p).length * 5+5) * 64≤140737488355328:=by omega
  have done1:p c=true→(z.ai.take (i+1)).filter p=(z.ai.take i).filter p++[c]:=fun q=>by rw [hnx,if_pos q]
  have done0:p c=false→(z.ai.take (i+1)).filter p=(z.ai.take i).filter p:=fun q=>by rw [hnx,if_neg (by rw [q];decide)]
  by_cases e1:(c.type.toNat:Int)=t.toNat
  ·have b1:((c.type.toNat:Int) != t.toNat)=false:=by simp [e1]
   by_cases e3:(c.cls.toNat:Int)=1
   ·have b2:((c.cls.toNat:Int) != 1)=false:=by simp [e3]
    cases e4:er c.owner n with
    |true=>
     have pc:p c=false:=by rw [hp];unfold gm;rw [decide_eq_true e1,decide_eq_true e3,e4];rfl
     simp only [↓wR,RA,simprocAttr,TF,ae,h,hc,b1,b2,jr,hcs.owner,hn,e4];repeat (simp (disch:=omega) only [ag,bf,bg,be,bb];try simp only [↓wR,RA,simprocAttr,TF,ae,h,hc,b1,b2,jr,hcs.owner,hn,e4])
     exact ⟨i+1,hlt,by rw [done0 pc];exact ⟨by omega,by (first|rfl|trivial|omega|((try (simp (disch:=omega) only [ag]));(try (simp only [FB]));first|done|rfl|omega))⟩⟩
    |false=>
     have pc:p c=true:=by rw [hp];unfold gm;rw [decide_eq_true e1,decide_eq_true e3,e4];rfl
     simp only [↓wR,RA,simprocAttr,TF,ae,h,hc,b1,b2,jr,hcs.owner,hn,e4,hlim];repeat (simp (disch:=omega) only [ag,bf,bg,be,bb];try simp only [↓wR,RA,simprocAttr,TF,ae,h,hc,b1,b2,jr,hcs.owner,hn,e4,hlim])
     exact ⟨i+1,hlt,by omega,by rw [done1 pc,List.length_append];(first|rfl|trivial|omega|((try (simp (disch:=omega) only [ag]));(try (simp only [FB]));first|done|rfl|omega)),by rw [done1 pc,gh]⟩
   ·have b2:((c.cls.toNat:Int) != 1)=true:=by simp [e3]
    have pc:p c=true:=by rw [hp];unfold gm;rw [decide_eq_true e1,decide_eq_false e3];rfl
    simp only [↓wR,RA,simprocAttr,TF,ae,h,hc,b1,b2,hlim];repeat (simp (disch:=omega) only [ag,bf,bg,be,bb];try simp only [↓wR,RA,simprocAttr,TF,ae,h,hc,b1,b2,hlim])
    exact ⟨i+1,hlt,by omega,by rw [done1 pc,List.length_append];(first|rfl|trivial|omega|((try (simp (disch:=omega) only [ag]));(try (simp only [FB]));first|done|rfl|omega)),by rw [done1 pc,gh]⟩
  ·have b1:((c.type.toNat:Int) != t.toNat)=true:=by simp [e1]
   have pc:p c=true:=by rw [hp];unfold gm;rw [decide_eq_false e1];rfl
   simp only [↓wR,RA,simprocAttr,TF,ae,h,hc,b1,hlim];repeat (simp (disch:=omega) only [ag,bf,bg,be,bb];try simp only [↓wR,RA,simprocAttr,TF,ae,h,hc,b1,hlim])
   exact ⟨i+1,hlt,by omega,by rw [done1 pc,List.length_append];(first|rfl|trivial|omega|((try (simp (disch:=omega) only [ag]));(try (simp only [FB]));first|done|rfl|omega)),by rw [done1 pc,gh]⟩
 ·have hin:i=z.ai.length:=by omega
  subst hin
  rw [List.take_length]
  have hfl:=List.length_filter_le p z.ai
  have hmw:ca z.origin+gj jh (z.ai.filter p)≤16777216:=by
   have h1:=u2 jh p z.ai
   unfold bz sy at hz
   omega
  have hml:(z.ai.filter p).length≤1048576:=by omega
  have hmd:∀ x ∈ z.ai.filter p,x.data.length≤1048576:=fun x hx=>hd x (List.mem_filter.1 hx).1
  have hdec:∀ h k st et,kj ah false h 0 (z.ai.filter p).length (.row (cellsOf ah false (z.ai.filter p)) k st et)=some (z.ai.filter p):=fun h k st et=>ku ah false h false (z.ai.filter p) k st et _ rfl rfl rfl
  simp only [↓wR,RA,simprocAttr,TF,ae,h]
  rw [cp];refine ⟨fun ⟨h3,e3⟩=>?_,fun ⟨h3,e3⟩=>?_⟩
  ·rw [if_pos (by omega)]
   simp only [↓wR,RA,simprocAttr,TF,ae,h3]
   try rfl
  ·rw [if_neg (by omega)]
   simp only [↓wR,RA,simprocAttr,TF,ae,h3,Ip,hdec,hmw,hml,eq_true hmd,Gt,Ek]
noncomputable def C0 (x:bp × Name × UInt16 × Unit):Option AV:=if bz x.1∧bw x.2.1∧x.1.ai.length<1048576∧∀ s ∈ x.1.ai,s.data.length≤1048576 then some ((r2 br (bh .i64)).E true (nd x.1 x.2.1 x.2.2.1)) else none
set_option maxRecDepth 2000000 in
theorem aak (x:bp × Name × UInt16 × Unit) (r:AV) (h:C0 x=some r):bk PP 49 ((aC br (aC au (aC cg a0))).E x) r:=by
 by_cases hc:bz x.1∧bw x.2.1∧x.1.ai.length<1048576∧∀ s ∈ x.1.ai,s.data.length≤1048576
 case neg=>simp only [C0,if_neg hc] at h;cases h
 simp only [C0,if_pos hc] at h
 cases h
 exact ay (ar.cons (ak pv) (ar.cons (ak Hp) (ar.cons (ak Uz) (ar.nil PP)))) Tryz.func49 (by kernel_rfl) (by kernel_rfl) (by kernel_rfl) (Nat.le_of_ble_eq_true (by kernel_rfl)) (r2 br (bh .i64)) true (nd x.1 x.2.1 x.2.2.1) (ann x.1 x.2.1 x.2.2.1 hc.1 hc.2.1 hc.2.2.1 hc.2.2.2)
noncomputable abbrev adz:Nat × Bool × (List AV→M AV):=(49,true,c8 (aC br (aC au (aC cg a0))) C0)
theorem amh (z:bp) (n:Name) (t c:UInt16) (hz:bz z) (hn:bw n):wl PP [ny,wz] 0 (Tryz.f103.body.getD .skip) (da PP Tryz.f103.results.toList (fun r st=>(r2 (cq ah) bo).get true st.h r=some (z.ai.filter (gm n t.toNat c.toNat),z.ai.any fun s=>!gm n t.toNat c.toNat s))) (cj 0 [br.val false z,au.val false n,cg.val false t,cg.val false c]) (bj []):=by
 have hlen:=hz.len
 obtain ⟨p,hp⟩:∃ p,p=gm n t.toNat c.toNat:=⟨_,rfl⟩
 rw [← hp]
 unfold Tryz.f103
 simp only [fq,cr]
 simp only [↓wR,RA,simprocAttr,TF,ae]
 refine fj [1,2,3,4,11,12,10] (fun (i:Nat)=>[.vl false 1 (n.map (aj.val false)),.sc (.int .u16 t.toNat),.sc (.int .u16 c.toNat),.ptr 0 0,.sc (.bool ((z.ai.take i).any fun s=>!p s)),.sc (.int .i64 (i)),.sl 1 0 ((z.ai.take i).filter p).length 5]) (fun i=>[some (.row [.vl false 1 (z.origin.map (aj.val false)),.vl false 5 (z.ai.map (ah.val false))] 0 2 41),some (.row (cellsOf ah true (((z.ai.take i).filter p))) 0 0 31)]) (fun i=>i≤z.ai.length) (fun i=>z.ai.length - i) 0 (Nat.zero_le _) (by simp only [↓wR,RA,simprocAttr,TF,ae];(refine ji.lax [] (by first|exact Nat.le_of_ble_eq_true rfl|(simp [dk];omega)) ?_ ?_<;>repeat' first|exact ef.nil|exact b9.nil|exact fe.same _|exact fe.nil _ _ _|exact fe.lu _ _|exact b9.refl _ _|apply ef.cons|apply b9.ghost|apply b9.same|apply b9.row)) ?_
 intro i hi
 simp only [↓wR,RA,simprocAttr,TF,ae]
 rw [aw];refine ⟨fun h=>?_,fun h=>?_⟩
 ·obtain ⟨s,hs,hd1,hlt⟩:=dx (decide_eq_true h)
  have hss:=hz.set s (List.mem_of_getElem? hs)
  have hfl:=List.length_filter_le p (z.ai.take i)
  rw [List.length_take] at hfl
  have hnx:=Ed (p:=p) hs
  have hax:((z.ai.take (i+1)).any fun s=>!p s)=(((z.ai.take i).any fun s=>!p s) || !p s):=by rw [iu hs,List.any_append];simp
  have hlim:(((z.ai.take i).filter p).length * 5+5) * 64≤140737488355328:=by omega
  have done1:p s=true→(z.ai.take (i+1)).filter p=(z.ai.take i).filter p++[s]∧((z.ai.take (i+1)).any fun s=>!p s)=((z.ai.take i).any fun s=>!p s):=fun q=>⟨by rw [hnx,if_pos q],by rw [hax,q];simp⟩
  have done0:p s=false→(z.ai.take (i+1)).filter p=(z.ai.take i).filter p∧((z.ai.take (i+1)).any fun s=>!p s)=true:=fun q=>⟨by rw [hnx,if_neg (by rw [q];decide)],by rw [hax,q];simp⟩
  by_cases e1:(s.type.toNat:Int)=t.toNat
  ·have b1:((s.type.toNat:Int) == t.toNat)=true:=by simp [e1]
   by_cases e3:(s.cls.toNat:Int)=c.toNat
   ·have b2:((s.cls.toNat:Int) == c.toNat)=true:=by simp [e3]
    cases e4:er s.owner n with
    |true=>
     have pc:p s=false:=by rw [hp];unfold gm;rw [decide_eq_true e1,decide_eq_true e3,e4];rfl
     simp only [↓wR,RA,simprocAttr,TF,ae,h,hs,b1,b2,oz,hss.owner,hn,e4];repeat (simp (disch:=omega) only [ag,bf,bg,be,bb];try simp only [↓wR,RA,simprocAttr,TF,ae,h,hs,b1,b2,oz,hss.owner,hn,e4])
     exact ⟨i+1,hlt,by omega,by rw [(done0 pc).1,(done0 pc).2];(first|rfl|trivial|omega|((try (simp (disch:=omega) only [ag]));(try (simp only [FB]));first|done|rfl|omega)),by rw [(done0 pc).1]⟩
    |false=>
     have pc:p s=true:=by rw [hp];unfold gm;rw [decide_eq_true e1,decide_eq_true e3,e4];rfl
     simp only [↓wR,RA,simprocAttr,TF,ae,h,hs,b1,b2,oz,hss.owner,hn,e4,g8,hss,hlim];repeat (simp (disch:=omega) only [ag,bf,bg,be,bb];try simp only [↓wR,RA,simprocAttr,TF,ae,h,hs,b1,b2,oz,hss.owner,hn,e4,g8,hss,hlim])
     exact ⟨i+1,hlt,by omega,by rw [(done1 pc).1,(done1 pc).2,List.length_append];(first|rfl|trivial|omega|((try (simp (disch:=omega) only [ag]));(try (simp only [FB]));first|done|rfl|omega)),by rw [(done1 pc).1,gh]⟩
   ·have b2:((s.cls.toNat:Int) == c.toNat)=false:=by simp [e3]
    have pc:p s=true:=by rw [hp];unfold gm;rw [decide_eq_true e1,decide_eq_false e3];rfl
    simp only [↓wR,RA,simprocAttr,TF,ae,h,hs,b1,b2,g8,hss,hlim];repeat (simp (disch:=omega) only [ag,bf,bg,be,bb];try simp only [↓wR,RA,simprocAttr,TF,ae,h,hs,b1,b2,g8,hss,hlim])
    exact ⟨i+1,hlt,by omega,by rw [(done1 pc).1,(done1 pc).2,List.length_append];(first|rfl|trivial|omega|((try (simp (disch:=omega) only [ag]));(try (simp only [FB]));first|done|rfl|omega)),by rw [(done1 pc).1,gh]⟩
  ·have b1:((s.type.toNat:Int) == t.toNat)=false:=by simp [e1]
   have pc:p s=true:=by rw [hp];unfold gm;rw [decide_eq_false e1];rfl
   simp only [↓wR,RA,simprocAttr,TF,ae,h,hs,b1,g8,hss,hlim];repeat (simp (disch:=omega) only [ag,bf,bg,be,bb];try simp only [↓wR,RA,simprocAttr,TF,ae,h,hs,b1,g8,hss,hlim])
   exact ⟨i+1,hlt,by omega,by rw [(done1 pc).1,(done1 pc).2,List.length_append];(first|rfl|trivial|omega|((try (simp (disch:=omega) only [ag]));(try (simp only [FB]));first|done|rfl|omega)),by rw [(done1 pc).1,gh]⟩
 ·have hin:i=z.ai.length:=by omega
  subst hin
  rw [List.take_length]
  have hd:∀ fr h k st et,A9 fr st 5 ah.kd et=true→kj ah fr h 0 (z.ai.filter p).length (.row (cellsOf ah true (z.ai.filter p)) k st et)=some (z.ai.filter p):=fun fr h k st et hro=>ku ah fr h true _ k st et _ rfl (by cases fr<;>rfl) hro
  simp only [↓wR,RA,simprocAttr,TF,ae,h,hd]
theorem aiw (z:bp) (n:Name) (t c:UInt16) (hz:bz z) (hn:bw n):ib PP 103 [br.val false z,au.val false n,cg.val false t,cg.val false c] (bj [])
 (fun r st'=>r = .fo [.sl 0 0 (z.ai.filter (gm n t.toNat c.toNat)).length 5,.sc (.bool (z.ai.any fun s=>!gm n t.toNat c.toNat s))]∧st'=bj [some (.row (cellsOf ah true ((z.ai.filter (gm n t.toNat c.toNat)))) 0 0 31)]):=by
 have hlen:=hz.len
 obtain ⟨p,hp⟩:∃ p,p=gm n t.toNat c.toNat:=⟨_,rfl⟩
 rw [← hp]
 refine dr _ rfl ?_ (fun r st' h=>h)
 simp only [fq,cr]
 refine ct (T:=[ny,wz]) (ar.cons (ak ue) (ar.cons (ak ou) (ar.nil PP))) mixed Tryz.func103 rfl (by kernel_rfl) (by kernel_rfl) (by kernel_rfl) (by kernel_rfl) ?_;unfold Tryz.f103
 simp only [↓wR,RA,simprocAttr,TF,ae]
 refine fj [1,2,3,4,11,12,10] (fun (i:Nat)=>[.vl false 1 (n.map (aj.val false)),.sc (.int .u16 t.toNat),.sc (.int .u16 c.toNat),.ptr 0 0,.sc (.bool ((z.ai.take i).any fun s=>!p s)),.sc (.int .i64 (i)),.sl 1 0 ((z.ai.take i).filter p).length 5]) (fun i=>[some (.row [.vl false 1 (z.origin.map (aj.val false)),.vl false 5 (z.ai.map (ah.val false))] 0 2 41),some (.row (cellsOf ah true (((z.ai.take i).filter p))) 0 0 31)]) (fun i=>i≤z.ai.length) (fun i=>z.ai.length - i) 0 (Nat.zero_le _) (by simp only [↓wR,RA,simprocAttr,TF,ae];(refine ji.lax [] (by first|exact Nat.le_of_ble_eq_true rfl|(simp [dk];omega)) ?_ ?_<;>repeat' first|exact ef.nil|exact b9.nil|exact fe.same _|exact fe.nil _ _ _|exact fe.lu _ _|exact b9.refl _ _|apply ef.cons|apply b9.ghost|apply b9.same|apply b9.row)) ?_
 intro i hi
 simp only [↓wR,RA,simprocAttr,TF,ae]
 rw [aw];refine ⟨fun h=>?_,fun h=>?_⟩
 ·obtain ⟨s,hs,hd1,hlt⟩:=dx (decide_eq_true h)
  have hss:=hz.set s (List.mem_of_getElem? hs)
  have hfl:=List.length_filter_le p (z.ai.take i)
  rw [List.length_take] at hfl
  have hnx:=Ed (p:=p) hs
  have hax:((z.ai.take (i+1)).any fun s=>!p s)=(((z.ai.take i).any fun s=>!p s) || !p s):=by rw [iu hs,List.any_append];simp
  have hlim:(((z.ai.take i).filter p).length * 5+5) * 64≤140737488355328:=by omega
  have done1:p s=true→(z.ai.take (i+1)).filter p=(z.ai.take i).filter p++[s]∧((z.ai.take (i+1)).any fun s=>!p s)=((z.ai.take i).any fun s=>!p s):=fun q=>⟨by rw [hnx,if_pos q],by rw [hax,q];simp⟩
  have done0:p s=false→(z.ai.take (i+1)).filter p=(z.ai.take i).filter p∧((z.ai.take (i+1)).any fun s=>!p s)=true:=fun q=>⟨by rw [hnx,if_neg (by rw [q];decide)],by rw [hax,q];simp⟩
  by_cases e1:(s.type.toNat:Int)=t.toNat
  ·have b1:((s.type.toNat:Int) == t.toNat)=true:=by simp [e1]
   by_cases e3:(s.cls.toNat:Int)=c.toNat
   ·have b2:((s.cls.toNat:Int) == c.toNat)=true:=by simp [e3]
    cases e4:er s.owner n with
    |true=>
     have pc:p s=false:=by rw [hp];unfold gm;rw [decide_eq_true e1,decide_eq_true e3,e4];rfl
     simp only [↓wR,RA,simprocAttr,TF,ae,h,hs,b1,b2,oz,hss.owner,hn,e4];repeat (simp (disch:=omega) only [ag,bf,bg,be,bb];try simp only [↓wR,RA,simprocAttr,TF,ae,h,hs,b1,b2,oz,hss.owner,hn,e4])
     exact ⟨i+1,hlt,by omega,by rw [(done0 pc).1,(done0 pc).2];(first|rfl|trivial|omega|((try (simp (disch:=omega) only [ag]));(try (simp only [FB]));first|done|rfl|omega)),by rw [(done0 pc).1]⟩
    |false=>
     have pc:p s=true:=by rw [hp];unfold gm;rw [decide_eq_true e1,decide_eq_true e3,e4];rfl
     simp only [↓wR,RA,simprocAttr,TF,ae,h,hs,b1,b2,oz,hss.owner,hn,e4,g8,hss,hlim];repeat (simp (disch:=omega) only [ag,bf,bg,be,bb];try simp only [↓wR,RA,simprocAttr,TF,ae,h,hs,b1,b2,oz,hss.owner,hn,e4,g8,hss,hlim])
     exact ⟨i+1,hlt,by omega,by rw [(done1 pc).1,(done1 pc).2,List.length_append];(first|rfl|trivial|omega|((try (simp (disch:=omega) only [ag]));(try (simp only [FB]));first|done|rfl|omega)),by rw [(done1 pc).1,gh]⟩
   ·have b2:((s.cls.toNat:Int) == c.toNat)=false:=by simp [e3]
    have pc:p s=true:=by rw [hp];unfold gm;rw [decide_eq_true e1,decide_eq_false e3];rfl
    simp only [↓wR,RA,simprocAttr,TF,ae,h,hs,b1,b2,g8,hss,hlim];repeat (simp (disch:=omega) only [ag,bf,bg,be,bb];try simp only [↓wR,RA,simprocAttr,TF,ae,h,hs,b1,b2,g8,hss,hlim])
    exact ⟨i+1,hlt,by omega,by rw [(done1 pc).1,(done1 pc).2,List.length_append];(first|rfl|trivial|omega|((try (simp (disch:=omega) only [ag]));(try (simp only [FB]));first|done|rfl|omega)),by rw [(done1 pc).1,gh]⟩
  ·have b1:((s.type.toNat:Int) == t.toNat)=false:=by simp [e1]
   have pc:p s=true:=by rw [hp];unfold gm;rw [decide_eq_false e1];rfl
   simp only [↓wR,RA,simprocAttr,TF,ae,h,hs,b1,g8,hss,hlim];repeat (simp (disch:=omega) only [ag,bf,bg,be,bb];try simp only [↓wR,RA,simprocAttr,TF,ae,h,hs,b1,g8,hss,hlim])
   exact ⟨i+1,hlt,by omega,by rw [(done1 pc).1,(done1 pc).2,List.length_append];(first|rfl|trivial|omega|((try (simp (disch:=omega) only [ag]));(try (simp only [FB]));first|done|rfl|omega)),by rw [(done1 pc).1,gh]⟩
 ·have hin:i=z.ai.length:=by omega
  subst hin
  rw [List.take_length]
  simp only [↓wR,RA,simprocAttr,TF,ae,h,g6,gv,gk]
noncomputable def F3 (x:bp × Name × UInt16 × UInt16 × Unit):Option AV:=if bz x.1∧bw x.2.1 then some ((r2 (cq ah) bo).E true ((x.1.ai.filter (gm x.2.1 x.2.2.1.toNat x.2.2.2.1.toNat),x.1.ai.any fun s=>!gm x.2.1 x.2.2.1.toNat x.2.2.2.1.toNat s))) else none
set_option maxRecDepth 2000000 in
theorem ae2 (x:bp × Name × UInt16 × UInt16 × Unit) (r:AV) (h:F3 x=some r):bk PP 103 ((aC br (aC au (aC cg (aC cg a0)))).E x) r:=by
 by_cases hc:bz x.1∧bw x.2.1
 case neg=>simp only [F3,if_neg hc] at h;cases h
 simp only [F3,if_pos hc] at h
 cases h
 exact ay (ar.cons (ak ue) (ar.cons (ak ou) (ar.nil PP))) Tryz.func103 (by kernel_rfl) (by kernel_rfl) (by kernel_rfl) (Nat.le_of_ble_eq_true (by kernel_rfl)) (r2 (cq ah) bo) true ((x.1.ai.filter (gm x.2.1 x.2.2.1.toNat x.2.2.2.1.toNat),x.1.ai.any fun s=>!gm x.2.1 x.2.2.1.toNat x.2.2.2.1.toNat s)) (amh x.1 x.2.1 x.2.2.1 x.2.2.2.1 hc.1 hc.2)
noncomputable abbrev axl:Nat × Bool × (List AV→M AV):=(103,true,c8 (aC br (aC au (aC cg (aC cg a0)))) F3)
theorem ahs (a b:az):xy (dj a) (dj b)=xy a b:=by
 have ho:∀ s,(dj s).owner=s.owner∧(dj s).type=s.type∧(dj s).cls=s.cls:=fun s=>by unfold dj;split<;>exact ⟨rfl,rfl,rfl⟩
 unfold xy
 rw [(ho a).1,(ho b).1,(ho a).2.1,(ho b).2.1,(ho a).2.2,(ho b).2.2]
theorem apw (a b:az):dy (dj a) (dj b)=dy a b:=by unfold dy;rw [ahs]
theorem ajf {α:Type} {lt : α → α→Bool} {f : α → α} (h:∀ a b,lt (f a) (f b)=lt a b) (x : α):∀ l:List α,j4 lt (f x) (l.map f)=(j4 lt x l).map f
 | []=>rfl
 |y::l=>by
  rw [List.map_cons,j4,j4,h,ajf h x l]
  cases lt x y<;>rfl
theorem as7 {α:Type} {lt : α → α→Bool} {f : α → α} (h:∀ a b,lt (f a) (f b)=lt a b) (l:List α):dg lt (l.map f)=(dg lt l).map f:=by
 have key:∀ (l acc:List α),(l.map f).foldl (fun acc x=>j4 lt x acc) (acc.map f)=(l.foldl (fun acc x=>j4 lt x acc) acc).map f:=by
  intro l
  induction l with
  |nil=>intro acc;rfl
  |cons a l ih=>intro acc;rw [List.map_cons,List.foldl_cons,List.foldl_cons,ajf h,ih]
 exact key l []
theorem aon (l:List az):dg dy (l.map dj)=sx l:=as7 apw l
theorem aik {s:az} (h:cd s):cd (dj s):=by unfold cd at *;rw [Zw];exact h
theorem auw (n:Name) (l:List az) (hn:bw n) (hl:qd l) (hl2:l.length≤1048576) (hd:∀ s ∈ l,s.data.length≤1048576):wl PP [azv,Cf,aBf] 0 (Tryz.f105.body.getD .skip) (da PP Tryz.f105.results.toList (fun r st=>(r1 br).get true st.h r=some (tp n (sx l)))) (cj 0 [au.val false n,(cq ah).val false l]) (bj []):=by
 have hol:=yk hn
 have hml:qd (l.map dj):=⟨by rw [List.length_map];exact hl.1,fun s h=>by obtain ⟨x,hx,rfl⟩:=List.mem_map.1 h;exact aik (hl.2 x hx)⟩
 have hml2:(l.map dj).length≤1048576:=by rw [List.length_map];exact hl2
 rw [← aon]
 unfold Tryz.f105
 simp only [cr]
 simp only [↓wR,RA,simprocAttr,TF,ae]
 refine fj [0,1,4,6,5] (fun (i:Nat)=>[.vl false 1 (n.map (aj.val false)),.vl false 5 (l.map (ah.val false)),.ptr 0 0,.sc (.int .i64 (i)),.sl 1 0 i 5]) (fun i=>[some (.row [.sc (.slice none 0 0),.sc (.slice none 0 0)] 0 2 41),some (.row (cellsOf ah true (((l.take i).map dj))) 0 0 31)]) (fun i=>i≤l.length) (fun i=>l.length - i) 0 (Nat.zero_le _) (by simp only [↓wR,RA,simprocAttr,TF,ae];(refine ji.lax [] (by first|exact Nat.le_of_ble_eq_true rfl|(simp [dk];omega)) ?_ ?_<;>repeat' first|exact ef.nil|exact b9.nil|exact fe.same _|exact fe.nil _ _ _|exact fe.lu _ _|exact b9.refl _ _|apply ef.cons|apply b9.ghost|apply b9.same|apply b9.row)) ?_
 intro i hi
 simp only [↓wR,RA,simprocAttr,TF,ae]
 rw [aw];refine ⟨fun h=>?_,fun h=>?_⟩
 ·obtain ⟨c,hc,hd1,hlt⟩:=dx (decide_eq_true h)
  have c1:=hl.2 c (List.mem_of_getElem? hc)
  have c2:=hd c (List.mem_of_getElem? hc)
  have hlen:((l.take i).map dj).length=i:=by rw [List.length_map,List.length_take];omega
  have hlim:(i * 5+5) * 64≤140737488355328:=by omega
  have hnx:(l.take (i+1)).map dj=(l.take i).map dj++[dj c]:=by rw [iu hc,List.map_append];rfl
  simp only [↓wR,RA,simprocAttr,TF,ae,h,hc,E1,c1,c2,hlen,hlim];repeat (simp (disch:=omega) only [ag,bf,bg,be,bb];try simp only [↓wR,RA,simprocAttr,TF,ae,h,hc,E1,c1,c2,hlen,hlim])
  refine ⟨i+1,hlt,by omega,by (first|rfl|trivial|omega|((try (simp (disch:=omega) only [ag]));(try (simp only [FB]));first|done|rfl|omega)),?_⟩
  rw [hnx,gh]
 ·have hin:i=l.length:=by omega
  subst hin
  rw [List.take_length]
  have hdr:∀ fr h k st et,A9 fr st 5 ah.kd et=true→kj ah fr h 0 l.length (.row (cellsOf ah true (l.map dj)) k st et)=some (l.map dj):=fun fr h k st et hro=>ku ah fr h true _ k st et _ (by rw [List.length_map]) (by cases fr<;>rfl) hro
  simp only [↓wR,RA,simprocAttr,TF,ae,h,nn,hol,hdr,Lo,hml,hl2,Ek,Gt]
  try rfl
noncomputable def H2 (x:Name × List az × Unit):Option AV:=if bw x.1∧qd x.2.1∧x.2.1.length≤1048576∧∀ s ∈ x.2.1,s.data.length≤1048576 then some ((r1 br).E true (tp x.1 (sx x.2.1))) else none
set_option maxRecDepth 2000000 in
theorem T2 (x:Name × List az × Unit) (r:AV) (h:H2 x=some r):bk PP 105 ((aC au (aC (cq ah) a0)).E x) r:=by
 by_cases hc:bw x.1∧qd x.2.1∧x.2.1.length≤1048576∧∀ s ∈ x.2.1,s.data.length≤1048576
 case neg=>simp only [H2,if_neg hc] at h;cases h
 simp only [H2,if_pos hc] at h
 cases h
 exact ay (ar.cons (ak aix) (ar.cons (ak rp) (ar.cons (ak amt) (ar.nil PP)))) Tryz.func105 (by kernel_rfl) (by kernel_rfl) (by kernel_rfl) (Nat.le_of_ble_eq_true (by kernel_rfl)) (r1 br) true (tp x.1 (sx x.2.1)) (auw x.1 x.2.1 hc.1 hc.2.1 hc.2.2.1 hc.2.2.2)
noncomputable abbrev awg:Nat × Bool × (List AV→M AV):=(105,true,c8 (aC au (aC (cq ah) a0)) H2)
noncomputable def yq (z:bp):bp × Int:=if lg z=0 then (z,0) else (tp [] [],lg z)
theorem ahf (z:bp) (hz:bz z):wl PP [J7] 0 (Tryz.f104.body.getD .skip) (da PP Tryz.f104.results.toList (fun r st=>(r2 br (bh .i64)).get false st.h r=some (yq z))) (cj 0 [br.val false z]) (bj []):=by
 unfold Tryz.f104
 simp only [fq]
 simp only [↓wR,RA,simprocAttr,TF,ae,sr,hz]
 unfold yq
 rw [c9];refine ⟨fun ⟨h2,e2⟩=>?_,fun ⟨h2,e2⟩=>?_⟩
 ·rw [if_neg e2]
  simp only [↓wR,RA,simprocAttr,TF,ae,h2]
  try rfl
 ·rw [if_pos (by omega)]
  simp only [↓wR,RA,simprocAttr,TF,ae,h2]
  try rfl
noncomputable def za (x:bp × Unit):Option AV:=if bz x.1 then some ((r2 br (bh .i64)).E false (yq x.1)) else none
set_option maxRecDepth 2000000 in
theorem Kw (x:bp × Unit) (r:AV) (h:za x=some r):bk PP 104 ((aC br a0).E x) r:=by
 by_cases hc:bz x.1
 case neg=>simp only [za,if_neg hc] at h;cases h
 simp only [za,if_pos hc] at h
 cases h
 exact ay (ar.cons (ak zz) (ar.nil PP)) Tryz.func104 (by kernel_rfl) (by kernel_rfl) (by kernel_rfl) (Nat.le_of_ble_eq_true (by kernel_rfl)) (r2 br (bh .i64)) false (yq x.1) (ahf x.1 hc)
noncomputable abbrev Si:Nat × Bool × (List AV→M AV):=(104,true,c8 (aC br a0) za)
theorem z5 (n:Name) (l:List az):Cy n l=yq (tp n (sx l)):=rfl
theorem I6 {n:Name} {l:List az} (h:ca n+gj jh l≤16777216):bz (tp n (sx l)):=by
 have:=ajs l
 show ca n+gj jh (sx l)≤16777216
 omega
theorem aud (z:bp) (s:az) (hw:sy z+jh s<16777216) (hl:z.ai.length<1048576) (hd:(∀ x ∈ z.ai,x.data.length≤1048576)∧s.data.length≤1048576):wl PP [J7,wz,awg,Si] 0 (Tryz.f48.body.getD .skip) (da PP Tryz.f48.results.toList (fun r st=>(r2 br (bh .i64)).get false st.h r=some (vv z s))) (cj 0 [br.val false z,ah.val false s]) (bj []):=by
 have hq:∀ a b c d,dz a b c=d→dz a b c=d:=fun _ _ _ _ h=>h
 have hz:bz z:=by unfold bz;omega
 have hs:cd s:=by unfold cd;omega
 obtain ⟨p,hp⟩:∃ p,p=gm s.owner s.type.toNat s.cls.toNat:=⟨_,rfl⟩
 unfold Tryz.f48
 simp only [fq,fu]
 unfold vv
 rw [← hp]
 simp only [↓wR,RA,simprocAttr,TF,ae,sr,hz]
 rw [c9];refine ⟨fun ⟨h2,e2⟩=>?_,fun ⟨h2,e2⟩=>?_⟩
 ·rw [if_neg e2]
  simp only [↓wR,RA,simprocAttr,TF,ae,h2]
  try rfl
 rw [if_pos (by omega),z5]
 have hfl:=List.length_filter_le p z.ai
 obtain ⟨L,hL⟩:∃ L,L=z.ai.filter p:=⟨_,rfl⟩
 have hmw:ca z.origin+gj jh (L++[s])≤16777216:=by
  have h1:=u2 jh p z.ai
  have h2:=Rv jh L [s]
  have h3:gj jh [s]=jh s+1:=by simp [gj]
  rw [← hL] at h1
  unfold sy at hw
  omega
 have hmL:L.length≤1048575:=by rw [hL];omega
 have hml:(L++[s]).length≤1048576:=by rw [List.length_append,List.length_singleton];omega
 have hmd:∀ x ∈ L++[s],x.data.length≤1048576:=fun x hx=>by
  rcases List.mem_append.1 hx with q|q
  ·rw [hL] at q;exact hd.1 x (List.mem_filter.1 q).1
  ·simp at q;subst q;exact hd.2
 have hmm:qd (L++[s]):=⟨by omega,(show si (L++[s]) by unfold si;omega).mem⟩
 have hts:=I6 hmw
 have hlim:(L.length * 5+5) * 64≤140737488355328:=by omega
 have hlim2:(L.length * 5+5) * 56≤140737488355328:=by omega
 rw [← hL]
 have hcall:=aiw z s.owner s.type s.cls hz hs.owner
 rw [← hp,← hL] at hcall
 simp only [↓wR,RA,simprocAttr,TF,ae,h2]
 refine Jf [] hcall (by decide) (by simp only [↓wR,RA,simprocAttr,TF,ae]) (by simp only [↓wR,RA,simprocAttr,TF,ae]) (Nat.le_of_ble_eq_true rfl) (by simp only [↓wR,RA,simprocAttr,TF,ae,fq,cr]) (by simp only [↓wR,RA,simprocAttr,TF,ae]) ⟨Nat.le_of_ble_eq_true rfl,Nat.le_of_ble_eq_true rfl⟩ ?_
 simp only [↓wR,RA,simprocAttr,TF,ae,dv,s9,zq,tg,Kp]
 refine ⟨by kernel_rfl,.inl ?_⟩
 have hdec:∀ h k st et,kj ah false h 0 (L.length+1) (.row (cellsOf ah true L++[.vl true 1 (s.owner.map (aj.val false)),.sc (.int .u16 s.type.toNat),.sc (.int .u16 s.cls.toNat),.sc (.int .u32 s.ey.toNat),.vl true 4 (s.data.map (aq.val true))]) k st et)=some (L++[s]):=fun h k st et=>by
  refine Eq.trans ?_ (ku ah false h true (L++[s]) k st et (L.length+1) (by rw [List.length_append];rfl) rfl rfl)
  rw [gh]
  try rfl
 simp only [↓wR,RA,simprocAttr,TF,ae,g8,hs,hlim,hlim2,H2,hz.origin,hdec,hmm,hml,hmL,eq_true hmd,za,hts,Gt,Ek]
 apply hq;kernel_rfl
noncomputable def Mn (x:bp × az × Unit):Option AV:=if sy x.1+jh x.2.1<16777216∧x.1.ai.length<1048576∧(∀ s ∈ x.1.ai,s.data.length≤1048576)∧x.2.1.data.length≤1048576 then some ((r2 br (bh .i64)).E false (vv x.1 x.2.1)) else none
set_option maxRecDepth 2000000 in
theorem aoj (x:bp × az × Unit) (r:AV) (h:Mn x=some r):bk PP 48 ((aC br (aC ah a0)).E x) r:=by
 by_cases hc:sy x.1+jh x.2.1<16777216∧x.1.ai.length<1048576∧(∀ s ∈ x.1.ai,s.data.length≤1048576)∧x.2.1.data.length≤1048576
 case neg=>simp only [Mn,if_neg hc] at h;cases h
 simp only [Mn,if_pos hc] at h
 cases h
 exact ay (ar.cons (ak zz) (ar.cons (ak ou) (ar.cons (ak T2) (ar.cons (ak Kw) (ar.nil PP))))) Tryz.func48 (by kernel_rfl) (by kernel_rfl) (by kernel_rfl) (Nat.le_of_ble_eq_true (by kernel_rfl)) (r2 br (bh .i64)) false (vv x.1 x.2.1) (aud x.1 x.2.1 hc.1 hc.2.1 hc.2.2)
noncomputable abbrev av5:Nat × Bool × (List AV→M AV):=(48,true,c8 (aC br (aC ah a0)) Mn)
theorem ay0 {p:az→Bool} (l:List az):(l.any fun s=>!p s) = !decide ((l.filter p).length=l.length):=by
 induction l with
 |nil=>rfl
 |cons a l ih=>
  have h:=List.length_filter_le p l
  rw [List.any_cons,List.filter_cons]
  cases p a
  ·simp;omega
  ·simp [ih]
theorem aie (z:bp) (n:Name) (t:UInt16) (hz:bz z) (hn:bw n) (hl:z.ai.length<1048576) (hd:∀ x ∈ z.ai,x.data.length≤1048576):wl PP [J7,axl,awg,Si] 0 (Tryz.f50.body.getD .skip) (da PP Tryz.f50.results.toList (fun r st=>(r2 br (bh .i64)).get false st.h r=some (nd z n t))) (cj 0 [br.val false z,au.val false n,cg.val false t]) (bj []):=by
 have hq:∀ a b c d,dz a b c=d→dz a b c=d:=fun _ _ _ _ h=>h
 obtain ⟨p,hp⟩:∃ p,p=gm n t.toNat 1:=⟨_,rfl⟩
 have h1:((1:UInt16).toNat:Int)=1:=rfl
 have hU:∀ fr h,cg.jf fr h (.sc (.int .u16 1))=some 1:=fun _ _=>rfl
 unfold Tryz.f50
 simp only [fq,cr]
 unfold nd
 rw [← hp]
 simp only [↓wR,RA,simprocAttr,TF,ae,sr,hz]
 rw [c9];refine ⟨fun ⟨h2,e2⟩=>?_,fun ⟨h2,e2⟩=>?_⟩
 ·rw [if_neg e2]
  simp only [↓wR,RA,simprocAttr,TF,ae,h2]
  try rfl
 rw [if_pos (by omega),z5]
 have hfl:=List.length_filter_le p z.ai
 simp only [↓wR,RA,simprocAttr,TF,ae,h2,hU,F3,hz,hn,h1,← hp]
 have hal:=ay0 (p:=p) z.ai
 obtain ⟨L,hL⟩:∃ L,L=z.ai.filter p:=⟨_,rfl⟩
 rw [← hL] at hal hfl
 rw [← hL]
 by_cases h4:L.length=z.ai.length
 ·rw [if_pos h4]
  rw [decide_eq_true h4] at hal
  simp only [↓wR,RA,simprocAttr,TF,ae,hal]
  try rfl
 ·rw [if_neg h4]
  rw [decide_eq_false h4] at hal
  have hmL:L.length≤1048576:=by omega
  have hmd:∀ x ∈ L,x.data.length≤1048576:=fun x hx=>by rw [hL] at hx;exact hd x (List.mem_filter.1 hx).1
  have hmw:ca z.origin+gj jh L≤16777216:=by
   have h1:=u2 jh p z.ai
   rw [← hL] at h1
   unfold bz sy at hz
   omega
  have hmm:qd L:=⟨by omega,(show si L by unfold si;omega).mem⟩
  have hts:=I6 hmw
  simp only [↓wR,RA,simprocAttr,TF,ae,hal,H2,hz.origin,hmm,hmL,eq_true hmd,Si,za,hts]
  try rfl
noncomputable def Dt (x:bp × Name × UInt16 × Unit):Option AV:=if bz x.1∧bw x.2.1∧x.1.ai.length<1048576∧∀ s ∈ x.1.ai,s.data.length≤1048576 then some ((r2 br (bh .i64)).E false (nd x.1 x.2.1 x.2.2.1)) else none
set_option maxRecDepth 2000000 in
theorem aax (x:bp × Name × UInt16 × Unit) (r:AV) (h:Dt x=some r):bk PP 50 ((aC br (aC au (aC cg a0))).E x) r:=by
 by_cases hc:bz x.1∧bw x.2.1∧x.1.ai.length<1048576∧∀ s ∈ x.1.ai,s.data.length≤1048576
 case neg=>simp only [Dt,if_neg hc] at h;cases h
 simp only [Dt,if_pos hc] at h
 cases h
 exact ay (ar.cons (ak zz) (ar.cons (ak ae2) (ar.cons (ak T2) (ar.cons (ak Kw) (ar.nil PP))))) Tryz.func50 (by kernel_rfl) (by kernel_rfl) (by kernel_rfl) (Nat.le_of_ble_eq_true (by kernel_rfl)) (r2 br (bh .i64)) false (nd x.1 x.2.1 x.2.2.1) (aie x.1 x.2.1 x.2.2.1 hc.1 hc.2.1 hc.2.2.1 hc.2.2.2)
noncomputable abbrev af9:Nat × Bool × (List AV→M AV):=(50,true,c8 (aC br (aC au (aC cg a0))) Dt)
noncomputable def n8 {α:Type} (a b : α):Bool:=@decide (a=b) (Classical.propDecidable _)
theorem Jb {α:Type} (a : α):n8 a a=true:=by unfold n8;exact @decide_eq_true _ (Classical.propDecidable _) rfl
theorem nc {α:Type} {a b : α} (h:a≠b):n8 a b=false:=by unfold n8;exact @decide_eq_false _ (Classical.propDecidable _) h
theorem Il {α:Type} {a b : α} (h:a=b):n8 a b=true:=by rw [h];exact Jb b
theorem Dp {α:Type} {a b : α} (h:n8 a b=true):a=b:=by unfold n8 at h;exact @of_decide_eq_true _ (Classical.propDecidable _) h
theorem zj {α:Type} {a b : α} (h:n8 a b=false):a≠b:=fun q=>by rw [q,Jb] at h;cases h
theorem Aa {α:Type} {l m:List α} {i:Nat} {c d : α} (h:l.take i=m.take i) (hc:l[i]? = some c) (hd:m[i]? = some d) (e:c=d):l.take (i+1)=m.take (i+1):=by
 obtain ⟨h1,rfl⟩:=List.getElem?_eq_some_iff.1 hc
 obtain ⟨h2,rfl⟩:=List.getElem?_eq_some_iff.1 hd
 rw [List.take_succ_eq_append_getElem h1,List.take_succ_eq_append_getElem h2,h,e]
theorem Dc {α:Type} {l m:List α} {i:Nat} (h:l.take i=m.take i) (hi:¬ i<l.length) (hl:l.length=m.length):l=m:=by
 rwa [List.take_of_length_le (by omega),List.take_of_length_le (by omega)] at h
theorem xp {α:Type} {l m:List α} {i:Nat} {c d : α} (hc:l[i]? = some c) (hd:m[i]? = some d) (e:c≠d):l≠m:=fun q=>by rw [q,hd] at hc;cases hc;exact e rfl
theorem De {α:Type} {l m:List α} (h:(l.length:Int)≠m.length):l≠m:=fun q=>h (by rw [q])
theorem Du {α:Type} {l m:List α} {i:Nat} (hl:l.length=m.length) (hi:i<l.length):∃ d,m[i]? = some d:=⟨m[i],List.getElem?_eq_getElem (by omega)⟩
theorem ae0 (a b:Name) (ha:a.length≤16777216):wl PP [] 0 (Tryz.f92.body.getD .skip) (da PP Tryz.f92.results.toList (fun r st=>(r1 bo).get true st.h r=some (n8 a b))) (cj 0 [au.val false a,au.val false b]) (bj []):=by
 have hq:∀ a b c d,dz a b c=d→dz a b c=d:=fun _ _ _ _ h=>h
 unfold Tryz.f92
 simp only [cr]
 simp only [↓wR,RA,simprocAttr,TF,ae]
 rw [c9];refine ⟨fun ⟨h,e⟩=>?_,fun ⟨h,e⟩=>?_⟩
 ·simp only [↓wR,RA,simprocAttr,TF,ae,h,nc (De e)]
 have hl:a.length=b.length:=by omega
 simp only [↓wR,RA,simprocAttr,TF,ae,h]
 refine c7 [0,1,5] (fun (i:Nat)=>[.vl false 1 (a.map (aj.val false)),.vl false 1 (b.map (aj.val false)),.sc (.int .i64 (i))]) (fun _=>[]) (fun i=>i≤a.length∧a.take i=b.take i) (fun i=>a.length - i) 0 ⟨Nat.zero_le _,rfl⟩ (by simp only [↓wR,RA,simprocAttr,TF,ae]<;>rfl) (by simp only [↓wR,RA,simprocAttr,TF,ae]<;>rfl) ?_
 rintro i ⟨hi,hx⟩
 simp only [↓wR,RA,simprocAttr,TF,ae]
 rw [aw];refine ⟨fun h2=>?_,fun h2=>?_⟩
 ·obtain ⟨c,hc,hd1,hlt⟩:=dx (decide_eq_true h2)
  obtain ⟨d,hd⟩:=Du hl hlt
  simp only [↓wR,RA,simprocAttr,TF,ae,h2]
  refine ⟨by kernel_rfl,.inl ?_⟩
  simp only [↓wR,RA,simprocAttr,TF,ae,hc,hd]
  refine ⟨by apply hq;kernel_rfl,?_⟩
  by_cases e2:c=d
  ·simp only [↓wR,RA,simprocAttr,TF,ae,decide_eq_true e2];repeat (simp (disch:=omega) only [ag,bf,bg,be,bb];try simp only [↓wR,RA,simprocAttr,TF,ae,decide_eq_true e2])
   exact ⟨i+1,⟨hlt,Aa hx hc hd e2⟩,by omega,by (first|rfl|trivial|omega|((try (simp (disch:=omega) only [ag]));(try (simp only [FB]));first|done|rfl|omega))⟩
  ·simp only [↓wR,RA,simprocAttr,TF,ae,decide_eq_false e2,nc (xp hc hd e2)]
 ·simp only [↓wR,RA,simprocAttr,TF,ae,h2,Il (Dc hx (by omega) hl)]
noncomputable def xb (x:Name × Name × Unit):Option AV:=if x.1.length≤16777216 then some ((r1 bo).E true (n8 x.1 x.2.1)) else none
set_option maxRecDepth 2000000 in
theorem H8 (x:Name × Name × Unit) (r:AV) (h:xb x=some r):bk PP 92 ((aC au (aC au a0)).E x) r:=by
 by_cases hc:x.1.length≤16777216
 case neg=>simp only [xb,if_neg hc] at h;cases h
 simp only [xb,if_pos hc] at h
 cases h
 exact ay (ar.nil PP) Tryz.func92 (by kernel_rfl) (by kernel_rfl) (by kernel_rfl) (Nat.le_of_ble_eq_true (by kernel_rfl)) (r1 bo) true (n8 x.1 x.2.1) (ae0 x.1 x.2.1 hc)
noncomputable abbrev Zq:Nat × Bool × (List AV→M AV):=(92,true,c8 (aC au (aC au a0)) xb)
theorem ahk (a b:Name) (ha:a.length≤16777216):wl PP [Zq] 0 (Tryz.f33.body.getD .skip) (da PP Tryz.f33.results.toList (fun r st=>(r1 bo).get true st.h r=some (n8 a b))) (cj 0 [au.val false a,au.val false b]) (bj []):=by
 unfold Tryz.f33
 simp only [cr]
 simp only [↓wR,RA,simprocAttr,TF,ae,xb,ha]
noncomputable def ui (x:Name × Name × Unit):Option AV:=if x.1.length≤16777216 then some ((r1 bo).E true (n8 x.1 x.2.1)) else none
set_option maxRecDepth 2000000 in
theorem Bf (x:Name × Name × Unit) (r:AV) (h:ui x=some r):bk PP 33 ((aC au (aC au a0)).E x) r:=by
 by_cases hc:x.1.length≤16777216
 case neg=>simp only [ui,if_neg hc] at h;cases h
 simp only [ui,if_pos hc] at h
 cases h
 exact ay (ar.cons (ak H8) (ar.nil PP)) Tryz.func33 (by kernel_rfl) (by kernel_rfl) (by kernel_rfl) (Nat.le_of_ble_eq_true (by kernel_rfl)) (r1 bo) true (n8 x.1 x.2.1) (ahk x.1 x.2.1 hc)
noncomputable abbrev N5:Nat × Bool × (List AV→M AV):=(33,true,c8 (aC au (aC au a0)) ui)
theorem adv (a b:List UInt8):wl PP [] 0 (Tryz.f115.body.getD .skip) (da PP Tryz.f115.results.toList (fun r st=>(r1 bo).get true st.h r=some (n8 a b))) (cj 0 [(cq bu).val false a,(cq bu).val false b]) (bj []):=by
 unfold Tryz.f115
 simp only [om]
 simp only [↓wR,RA,simprocAttr,TF,ae]
 congr 1
 by_cases e:a=b
 ·rw [Il e,e];exact decide_eq_true rfl
 ·rw [nc e];exact decide_eq_false fun q=>e (by injection q with q;simpa using q)
noncomputable def Hk (x:List UInt8 × List UInt8 × Unit):Option AV:=some ((r1 bo).E true (n8 x.1 x.2.1))
set_option maxRecDepth 2000000 in
theorem Uk (x:List UInt8 × List UInt8 × Unit) (r:AV) (h:Hk x=some r):bk PP 115 ((aC (cq bu) (aC (cq bu) a0)).E x) r:=by
 cases h
 exact ay (ar.nil PP) Tryz.func115 (by kernel_rfl) (by kernel_rfl) (by kernel_rfl) (Nat.le_of_ble_eq_true (by kernel_rfl)) (r1 bo) true (n8 x.1 x.2.1) (adv x.1 x.2.1)
noncomputable abbrev aos:Nat × Bool × (List AV→M AV):=(115,true,c8 (aC (cq bu) (aC (cq bu) a0)) Hk)
theorem Ep {a b:bt} (h:¬ (a.names=b.names∧a.nums=b.nums∧a.texts=b.texts∧a.raw=b.raw)):a≠b:=fun q=>h (by rw [q];exact ⟨rfl,rfl,rfl,rfl⟩)
theorem ayt {a b:bt} (h1:a.names=b.names) (h2:a.nums=b.nums) (h3:a.texts=b.texts) (h4:a.raw=b.raw):a=b:=by
 cases a;cases b;simp_all
set_option maxHeartbeats 4000000 in
theorem ab8 (a b:bt) (ha:cy a):wl PP [Zq,N5,aos] 0 (Tryz.f64.body.getD .skip) (da PP Tryz.f64.results.toList (fun r st=>(r1 bo).get true st.h r=some (n8 a b))) (cj 0 [aq.val false a,aq.val false b]) (bj []):=by
 have hls:=ha.lens
 have hq:∀ a b c d,dz a b c=d→dz a b c=d:=fun _ _ _ _ h=>h
 unfold Tryz.f64
 simp only [gw]
 simp only [↓wR,RA,simprocAttr,TF,ae]
 rw [c9];refine ⟨fun ⟨h1,e1⟩=>?_,fun ⟨h1,e1⟩=>?_⟩
 ·simp only [↓wR,RA,simprocAttr,TF,ae,h1,nc (Ep fun q=>De e1 q.1)]
 simp only [↓wR,RA,simprocAttr,TF,ae,h1]
 rw [c9];refine ⟨fun ⟨h2,e2⟩=>?_,fun ⟨h2,e2⟩=>?_⟩
 ·simp only [↓wR,RA,simprocAttr,TF,ae,h2,nc (Ep fun q=>De e2 q.2.1)]
 simp only [↓wR,RA,simprocAttr,TF,ae,h2,xb,hls.2.2.1]
 cases h3:n8 a.texts b.texts with
 |false=>simp only [↓wR,RA,simprocAttr,TF,ae,nc (Ep fun q=>zj h3 q.2.2.1)]
 |true=>
 simp only [↓wR,RA,simprocAttr,TF,ae,Hk]
 cases h4:n8 a.raw b.raw with
 |false=>simp only [↓wR,RA,simprocAttr,TF,ae,nc (Ep fun q=>zj h4 q.2.2.2)]
 |true=>
 have hl1:a.names.length=b.names.length:=by omega
 have hl2:a.nums.length=b.nums.length:=by omega
 simp only [↓wR,RA,simprocAttr,TF,ae]
 refine c7 [2,3,5] (fun (i:Nat)=>[.ptr 0 0,.ptr 1 0,.sc (.int .i64 (i))]) (fun _=>[some (.row [.vl false 1 (a.names.map (au.val false)),.vl false 1 (a.nums.map (cw.val false)),.vl false 1 (a.texts.map (aj.val false)),.vl false 1 (a.raw.map (bu.val false))] 0 2 101),some (.row [.vl false 1 (b.names.map (au.val false)),.vl false 1 (b.nums.map (cw.val false)),.vl false 1 (b.texts.map (aj.val false)),.vl false 1 (b.raw.map (bu.val false))] 0 2 101)]) (fun i=>i≤a.names.length∧a.names.take i=b.names.take i) (fun i=>a.names.length - i) 0 ⟨Nat.zero_le _,rfl⟩ (by simp only [↓wR,RA,simprocAttr,TF,ae]<;>rfl) (by simp only [↓wR,RA,simprocAttr,TF,ae]<;>rfl) ?_
 rintro i ⟨hi,hx⟩
 simp only [↓wR,RA,simprocAttr,TF,ae]
 rw [aw];refine ⟨fun h5=>?_,fun h5=>?_⟩
 ·obtain ⟨c,hc,hd1,hlt⟩:=dx (decide_eq_true h5)
  obtain ⟨d,hd⟩:=Du hl1 hlt
  have hcl:c.length≤16777216:=by have:=(ha.name c (List.mem_of_getElem? hc));have:=(j8 c 0).2;unfold bw at *;omega
  simp only [↓wR,RA,simprocAttr,TF,ae,h5]
  refine ⟨by kernel_rfl,.inl ?_⟩
  simp only [↓wR,RA,simprocAttr,TF,ae,hc,hd,ui,hcl]
  refine ⟨by apply hq;kernel_rfl,?_⟩
  cases e6:n8 c d with
  |true=>
   simp only [↓wR,RA,simprocAttr,TF,ae];repeat (simp (disch:=omega) only [ag,bf,bg,be,bb];try simp only [↓wR,RA,simprocAttr,TF,ae])
   exact ⟨i+1,⟨hlt,Aa hx hc hd (Dp e6)⟩,by omega,by (first|rfl|trivial|omega|((try (simp (disch:=omega) only [ag]));(try (simp only [FB]));first|done|rfl|omega))⟩
  |false=>simp only [↓wR,RA,simprocAttr,TF,ae,nc (Ep fun q=>xp hc hd (zj e6) q.1)]
 have hnm:=Dc hx (by omega) hl1
 simp only [↓wR,RA,simprocAttr,TF,ae,h5]
 refine c7 [2,3,6] (fun (i:Nat)=>[.ptr 0 0,.ptr 1 0,.sc (.int .i64 (i))]) (fun _=>[some (.row [.vl false 1 (a.names.map (au.val false)),.vl false 1 (a.nums.map (cw.val false)),.vl false 1 (a.texts.map (aj.val false)),.vl false 1 (a.raw.map (bu.val false))] 0 2 101),some (.row [.vl false 1 (b.names.map (au.val false)),.vl false 1 (b.nums.map (cw.val false)),.vl false 1 (b.texts.map (aj.val false)),.vl false 1 (b.raw.map (bu.val false))] 0 2 101)]) (fun i=>i≤a.nums.length∧a.nums.take i=b.nums.take i) (fun i=>a.nums.length - i) 0 ⟨Nat.zero_le _,rfl⟩ (by simp only [↓wR,RA,simprocAttr,TF,ae]<;>rfl) (by simp only [↓wR,RA,simprocAttr,TF,ae]<;>rfl) ?_
 clear hi hx h5
 rintro i ⟨hi,hx⟩
 simp only [↓wR,RA,simprocAttr,TF,ae]
 rw [aw];refine ⟨fun h5=>?_,fun h5=>?_⟩
 ·obtain ⟨c,hc,hd1,hlt⟩:=dx (decide_eq_true h5)
  obtain ⟨d,hd⟩:=Du hl2 hlt
  simp only [↓wR,RA,simprocAttr,TF,ae,h5]
  refine ⟨by kernel_rfl,.inl ?_⟩
  simp only [↓wR,RA,simprocAttr,TF,ae,hc,hd]
  refine ⟨by apply hq;kernel_rfl,?_⟩
  rw [c9];refine ⟨fun ⟨h6,e6⟩=>?_,fun ⟨h6,e6⟩=>?_⟩
  ·simp only [↓wR,RA,simprocAttr,TF,ae,h6,nc (Ep fun q=>xp hc hd (fun q=>e6 (by rw [q])) q.2.1)]
  ·simp only [↓wR,RA,simprocAttr,TF,ae,h6];repeat (simp (disch:=omega) only [ag,bf,bg,be,bb];try simp only [↓wR,RA,simprocAttr,TF,ae,h6])
   exact ⟨i+1,⟨hlt,Aa hx hc hd (UInt32.toNat_inj.1 (by omega))⟩,by omega,by (first|rfl|trivial|omega|((try (simp (disch:=omega) only [ag]));(try (simp only [FB]));first|done|rfl|omega))⟩
 ·simp only [↓wR,RA,simprocAttr,TF,ae,h5,Il (ayt hnm (Dc hx (by omega) hl2) (Dp h3) (Dp h4))]
noncomputable def Ag (x:bt × bt × Unit):Option AV:=if cy x.1 then some ((r1 bo).E true (n8 x.1 x.2.1)) else none
set_option maxRecDepth 2000000 in
theorem Ws (x:bt × bt × Unit) (r:AV) (h:Ag x=some r):bk PP 64 ((aC aq (aC aq a0)).E x) r:=by
 by_cases hc:cy x.1
 case neg=>simp only [Ag,if_neg hc] at h;cases h
 simp only [Ag,if_pos hc] at h
 cases h
 exact ay (ar.cons (ak H8) (ar.cons (ak Bf) (ar.cons (ak Uk) (ar.nil PP)))) Tryz.func64 (by kernel_rfl) (by kernel_rfl) (by kernel_rfl) (Nat.le_of_ble_eq_true (by kernel_rfl)) (r1 bo) true (n8 x.1 x.2.1) (ab8 x.1 x.2.1 hc)
noncomputable abbrev aso:Nat × Bool × (List AV→M AV):=(64,true,c8 (aC aq (aC aq a0)) Ag)
theorem Ik {a b:az} (h:¬ (a.owner=b.owner∧a.type=b.type∧a.cls=b.cls∧a.ey=b.ey∧a.data=b.data)):a≠b:=fun q=>h (by rw [q];exact ⟨rfl,rfl,rfl,rfl,rfl⟩)
theorem aAu {a b:az} (h1:a.owner=b.owner) (h2:a.type=b.type) (h3:a.cls=b.cls) (h4:a.ey=b.ey) (h5:a.data=b.data):a=b:=by
 cases a;cases b;simp_all
set_option maxHeartbeats 4000000 in
theorem aih (a b:az) (ha:cd a):wl PP [N5,aso] 0 (Tryz.f16.body.getD .skip) (da PP Tryz.f16.results.toList (fun r st=>(r1 bo).get true st.h r=some (n8 a b))) (cj 0 [ah.val false a,ah.val false b]) (bj []):=by
 have hol:a.owner.length≤16777216:=by have:=ha.owner;have:=(j8 a.owner 0).2;unfold bw at *;omega
 have hdl:=ha.data.len
 have hq:∀ a b c d,dz a b c=d→dz a b c=d:=fun _ _ _ _ h=>h
 unfold Tryz.f16
 simp only [fu]
 simp only [↓wR,RA,simprocAttr,TF,ae,ui,hol]
 cases h1:n8 a.owner b.owner with
 |false=>simp only [↓wR,RA,simprocAttr,TF,ae,nc (Ik fun q=>zj h1 q.1)]
 |true=>
 simp only [↓wR,RA,simprocAttr,TF,ae]
 rw [c9];refine ⟨fun ⟨h2,e2⟩=>?_,fun ⟨h2,e2⟩=>?_⟩
 ·simp only [↓wR,RA,simprocAttr,TF,ae,h2,nc (Ik fun q=>e2 (by rw [q.2.1]))]
 simp only [↓wR,RA,simprocAttr,TF,ae,h2]
 rw [c9];refine ⟨fun ⟨h3,e3⟩=>?_,fun ⟨h3,e3⟩=>?_⟩
 ·simp only [↓wR,RA,simprocAttr,TF,ae,h3,nc (Ik fun q=>e3 (by rw [q.2.2.1]))]
 simp only [↓wR,RA,simprocAttr,TF,ae,h3]
 rw [c9];refine ⟨fun ⟨h4,e4⟩=>?_,fun ⟨h4,e4⟩=>?_⟩
 ·simp only [↓wR,RA,simprocAttr,TF,ae,h4,nc (Ik fun q=>e4 (by rw [q.2.2.2.1]))]
 simp only [↓wR,RA,simprocAttr,TF,ae,h4]
 rw [c9];refine ⟨fun ⟨h5,e5⟩=>?_,fun ⟨h5,e5⟩=>?_⟩
 ·simp only [↓wR,RA,simprocAttr,TF,ae,h5,nc (Ik fun q=>De e5 q.2.2.2.2)]
 have hl1:a.data.length=b.data.length:=by omega
 simp only [↓wR,RA,simprocAttr,TF,ae,h5]
 refine c7 [2,3,5] (fun (i:Nat)=>[.ptr 0 0,.ptr 1 0,.sc (.int .i64 (i))]) (fun _=>[some (.row [.vl false 1 (a.owner.map (aj.val false)),.sc (.int .u16 a.type.toNat),.sc (.int .u16 a.cls.toNat),.sc (.int .u32 a.ey.toNat),.vl false 4 (a.data.map (aq.val false))] 0 2 31),some (.row [.vl false 1 (b.owner.map (aj.val false)),.sc (.int .u16 b.type.toNat),.sc (.int .u16 b.cls.toNat),.sc (.int .u32 b.ey.toNat),.vl false 4 (b.data.map (aq.val false))] 0 2 31)]) (fun i=>i≤a.data.length∧a.data.take i=b.data.take i) (fun i=>a.data.length - i) 0 ⟨Nat.zero_le _,rfl⟩ (by simp only [↓wR,RA,simprocAttr,TF,ae]<;>rfl) (by simp only [↓wR,RA,simprocAttr,TF,ae]<;>rfl) ?_
 rintro i ⟨hi,hx⟩
 simp only [↓wR,RA,simprocAttr,TF,ae]
 rw [aw];refine ⟨fun h6=>?_,fun h6=>?_⟩
 ·obtain ⟨c,hc,hd1,hlt⟩:=dx (decide_eq_true h6)
  obtain ⟨d,hd⟩:=Du hl1 hlt
  have hcs:=ha.data.mem c (List.mem_of_getElem? hc)
  simp only [↓wR,RA,simprocAttr,TF,ae,h6]
  refine ⟨by kernel_rfl,.inl ?_⟩
  simp only [↓wR,RA,simprocAttr,TF,ae,hc,hd,Ag,hcs]
  refine ⟨by apply hq;kernel_rfl,?_⟩
  cases e7:n8 c d with
  |true=>
   simp only [↓wR,RA,simprocAttr,TF,ae];repeat (simp (disch:=omega) only [ag,bf,bg,be,bb];try simp only [↓wR,RA,simprocAttr,TF,ae])
   exact ⟨i+1,⟨hlt,Aa hx hc hd (Dp e7)⟩,by omega,by (first|rfl|trivial|omega|((try (simp (disch:=omega) only [ag]));(try (simp only [FB]));first|done|rfl|omega))⟩
  |false=>simp only [↓wR,RA,simprocAttr,TF,ae,nc (Ik fun q=>xp hc hd (zj e7) q.2.2.2.2)]
 ·simp only [↓wR,RA,simprocAttr,TF,ae,h6,Il (aAu (Dp h1) (UInt16.toNat_inj.1 (by omega)) (UInt16.toNat_inj.1 (by omega)) (UInt32.toNat_inj.1 (by omega)) (Dc hx (by omega) hl1))]
noncomputable def ze (x:az × az × Unit):Option AV:=if cd x.1 then some ((r1 bo).E true (n8 x.1 x.2.1)) else none
set_option maxRecDepth 2000000 in
theorem Kj (x:az × az × Unit) (r:AV) (h:ze x=some r):bk PP 16 ((aC ah (aC ah a0)).E x) r:=by
 by_cases hc:cd x.1
 case neg=>simp only [ze,if_neg hc] at h;cases h
 simp only [ze,if_pos hc] at h
 cases h
 exact ay (ar.cons (ak Bf) (ar.cons (ak Ws) (ar.nil PP))) Tryz.func16 (by kernel_rfl) (by kernel_rfl) (by kernel_rfl) (Nat.le_of_ble_eq_true (by kernel_rfl)) (r1 bo) true (n8 x.1 x.2.1) (aih x.1 x.2.1 hc)
noncomputable abbrev Rt:Nat × Bool × (List AV→M AV):=(16,true,c8 (aC ah (aC ah a0)) ze)
theorem agv (a b:List az) (ha:qd a):wl PP [Rt] 0 (Tryz.f17.body.getD .skip) (da PP Tryz.f17.results.toList (fun r st=>(r1 bo).get true st.h r=some (n8 a b))) (cj 0 [(cq ah).val false a,(cq ah).val false b]) (bj []):=by
 have hal:=ha.1
 have hq:∀ a b c d,dz a b c=d→dz a b c=d:=fun _ _ _ _ h=>h
 unfold Tryz.f17
 simp only [om]
 simp only [↓wR,RA,simprocAttr,TF,ae]
 rw [c9];refine ⟨fun ⟨h,e⟩=>?_,fun ⟨h,e⟩=>?_⟩
 ·simp only [↓wR,RA,simprocAttr,TF,ae,h,nc (De e)]
 have hl:a.length=b.length:=by omega
 simp only [↓wR,RA,simprocAttr,TF,ae,h]
 refine c7 [0,1,5] (fun (i:Nat)=>[.vl false 5 (a.map (ah.val false)),.vl false 5 (b.map (ah.val false)),.sc (.int .i64 (i))]) (fun _=>[]) (fun i=>i≤a.length∧a.take i=b.take i) (fun i=>a.length - i) 0 ⟨Nat.zero_le _,rfl⟩ (by simp only [↓wR,RA,simprocAttr,TF,ae]<;>rfl) (by simp only [↓wR,RA,simprocAttr,TF,ae]<;>rfl) ?_
 rintro i ⟨hi,hx⟩
 simp only [↓wR,RA,simprocAttr,TF,ae]
 rw [aw];refine ⟨fun h2=>?_,fun h2=>?_⟩
 ·obtain ⟨c,hc,hd1,hlt⟩:=dx (decide_eq_true h2)
  obtain ⟨d,hd⟩:=Du hl hlt
  have hcs:=ha.2 c (List.mem_of_getElem? hc)
  simp only [↓wR,RA,simprocAttr,TF,ae,h2]
  refine ⟨by kernel_rfl,.inl ?_⟩
  simp only [↓wR,RA,simprocAttr,TF,ae,hc,hd,ze,hcs]
  refine ⟨by apply hq;kernel_rfl,?_⟩
  cases e7:n8 c d with
  |true=>
   simp only [↓wR,RA,simprocAttr,TF,ae];repeat (simp (disch:=omega) only [ag,bf,bg,be,bb];try simp only [↓wR,RA,simprocAttr,TF,ae])
   exact ⟨i+1,⟨hlt,Aa hx hc hd (Dp e7)⟩,by omega,by (first|rfl|trivial|omega|((try (simp (disch:=omega) only [ag]));(try (simp only [FB]));first|done|rfl|omega))⟩
  |false=>simp only [↓wR,RA,simprocAttr,TF,ae,nc (xp hc hd (zj e7))]
 ·simp only [↓wR,RA,simprocAttr,TF,ae,h2,Il (Dc hx (by omega) hl)]
noncomputable def Av (x:List az × List az × Unit):Option AV:=if qd x.1 then some ((r1 bo).E true (n8 x.1 x.2.1)) else none
set_option maxRecDepth 2000000 in
theorem Xl (x:List az × List az × Unit) (r:AV) (h:Av x=some r):bk PP 17 ((aC (cq ah) (aC (cq ah) a0)).E x) r:=by
 by_cases hc:qd x.1
 case neg=>simp only [Av,if_neg hc] at h;cases h
 simp only [Av,if_pos hc] at h
 cases h
 exact ay (ar.cons (ak Kj) (ar.nil PP)) Tryz.func17 (by kernel_rfl) (by kernel_rfl) (by kernel_rfl) (Nat.le_of_ble_eq_true (by kernel_rfl)) (r1 bo) true (n8 x.1 x.2.1) (agv x.1 x.2.1 hc)
noncomputable abbrev apz:Nat × Bool × (List AV→M AV):=(17,true,c8 (aC (cq ah) (aC (cq ah) a0)) Av)
def aCl (r:M3):Prop:=qd r.answer∧(qd r.authority∧qd r.Kb)
instance (r:M3):Decidable (aCl r):=inferInstanceAs (Decidable (_∧_))
theorem ajy {a b:bp} (h:¬ (a.origin=b.origin∧a.ai=b.ai)):a≠b:=fun q=>h (by rw [q];exact ⟨rfl,rfl⟩)
theorem axh {a b:bp} (h1:a.origin=b.origin) (h2:a.ai=b.ai):a=b:=by
 cases a;cases b;simp_all
theorem ad5 (a b:bp) (ha:bz a):wl PP [N5,apz] 0 (Tryz.f39.body.getD .skip) (da PP Tryz.f39.results.toList (fun r st=>(r1 bo).get true st.h r=some (n8 a b))) (cj 0 [br.val false a,br.val false b]) (bj []):=by
 have h1:=yk ha.origin
 unfold Tryz.f39
 simp only [fq]
 simp only [↓wR,RA,simprocAttr,TF,ae,ui,h1]
 cases h3:n8 a.origin b.origin with
 |false=>simp only [↓wR,RA,simprocAttr,TF,ae,nc (ajy fun q=>zj h3 q.1)]
 |true=>
 simp only [↓wR,RA,simprocAttr,TF,ae,Av,ha.mid]
 cases h4:n8 a.ai b.ai with
 |false=>simp only [↓wR,RA,simprocAttr,TF,ae,nc (ajy fun q=>zj h4 q.2)]
 |true=>simp only [↓wR,RA,simprocAttr,TF,ae,Il (axh (Dp h3) (Dp h4))]
noncomputable def xa (x:bp × bp × Unit):Option AV:=if bz x.1 then some ((r1 bo).E true (n8 x.1 x.2.1)) else none
set_option maxRecDepth 2000000 in
theorem H3 (x:bp × bp × Unit) (r:AV) (h:xa x=some r):bk PP 39 ((aC br (aC br a0)).E x) r:=by
 by_cases hc:bz x.1
 case neg=>simp only [xa,if_neg hc] at h;cases h
 simp only [xa,if_pos hc] at h
 cases h
 exact ay (ar.cons (ak Bf) (ar.cons (ak Xl) (ar.nil PP))) Tryz.func39 (by kernel_rfl) (by kernel_rfl) (by kernel_rfl) (Nat.le_of_ble_eq_true (by kernel_rfl)) (r1 bo) true (n8 x.1 x.2.1) (ad5 x.1 x.2.1 hc)
noncomputable abbrev F8:Nat × Bool × (List AV→M AV):=(39,true,c8 (aC br (aC br a0)) xa)
theorem ar6 {z:bp} (h:Lg z=true):z.ai.length≤40∧∀ x ∈ z.ai,x.data.length≤20:=by
 unfold Lg V4 at h
 rw [Bool.and_eq_true,List.all_eq_true,decide_eq_true_eq] at h
 refine ⟨by omega,fun x hx=>?_⟩
 have:=h.1 x hx
 simp at this
 omega
theorem aw7 (z:bp) (s:az) (n:Name) (t:UInt16) (hz:bz z) (hs:cd s) (hn:bw n):wl PP [aAi,agi,wz] 0 (n5 3 (Tryz.f6.body.getD .skip)) (Ga (fun L st=>((z.ai.length≤40∧∀ x ∈ z.ai,x.data.length≤20)∧s.data.length≤20)∧(aP br (aP ah (aC au (aC cg (aP br (aP ah a0)))))).get st.h [lk L 4,lk L 5,lk L 2,lk L 3,lk L 9,lk L 10]=some (z,s,n,t,z,s,())) (da PP Tryz.f6.results.toList (fun r st=>(r1 bo).get true st.h r=some true))) (cj 0 [br.val false z,ah.val false s,au.val false n,cg.val false t]) (bj []):=by
 unfold Tryz.f6
 simp only [fq,fu,cr]
 simp only [↓wR,RA,simprocAttr,TF,ae,↓j7,↓pr,↓kp,↓ko,↓np,↓nm,↓u4,↓uz,↓xt,tl,vg,u0,Su,hz]
 cases h1:Lg z with
 |false=>
  simp only [↓wR,RA,simprocAttr,TF,ae,↓j7,↓pr,↓kp,↓ko,↓np,↓nm,↓u4,↓uz,↓xt,tl,vg,u0]
  try rfl
 |true=>
  have hf:=ar6 h1
  simp only [↓wR,RA,simprocAttr,TF,ae,↓j7,↓pr,↓kp,↓ko,↓np,↓nm,↓u4,↓uz,↓xt,tl,vg,u0]
  rw [aw];refine ⟨fun h2=>?_,fun h2=>?_⟩
  ·simp only [↓wR,RA,simprocAttr,TF,ae,↓j7,↓pr,↓kp,↓ko,↓np,↓nm,↓u4,↓uz,↓xt,tl,vg,u0,h2]
   try rfl
  have h3:s.data.length≤20:=by omega
  simp only [↓wR,RA,simprocAttr,TF,ae,↓j7,↓pr,↓kp,↓ko,↓np,↓nm,↓u4,↓uz,↓xt,tl,vg,u0,h2]
  refine ⟨by kernel_rfl,.inl ?_⟩
  simp only [↓wR,RA,simprocAttr,TF,ae,↓j7,↓pr,↓kp,↓ko,↓np,↓nm,↓u4,↓uz,↓xt,tl,vg,u0,C2,hz,g8,hs]
  exact ⟨by kernel_rfl,⟨hf,h3⟩⟩
theorem T3 {n:Name} {l:List az} (h:ca n+gj jh l≤16777216):bz (Cy n l).1:=by
 rw [z5]
 unfold yq
 split
 ·exact I6 h
 ·exact (by decide:bz (tp [] []))
theorem afz (n:Name) (l:List az):(Cy n l).1.ai.length≤l.length:=by
 rw [z5]
 unfold yq
 split
 ·show (sx l).length≤_
  unfold sx
  rw [List.length_map,ed]
  exact Nat.le_refl _
 ·exact Nat.zero_le _
theorem Ql {z:bp} {s:az} (hw:sy z+jh s<16777216):bz (vv z s).1∧(vv z s).1.ai.length≤z.ai.length+1:=by
 unfold vv
 split
 ·refine ⟨T3 ?_,Nat.le_trans (afz _ _) ?_⟩
  ·have h1:=u2 jh (gm s.owner s.type.toNat s.cls.toNat) z.ai
   have h2:=Rv jh (z.ai.filter (gm s.owner s.type.toNat s.cls.toNat)) [s]
   have h3:gj jh [s]=jh s+1:=by simp [gj]
   unfold sy at hw
   omega
  ·rw [List.length_append,List.length_singleton]
   have:=List.length_filter_le (gm s.owner s.type.toNat s.cls.toNat) z.ai
   omega
 ·exact ⟨(by decide:bz (tp [] [])),Nat.zero_le _⟩
theorem Ie {z:bp} {n:Name} {t:UInt16} (hz:bz z):bz (nd z n t).1∧(nd z n t).1.ai.length≤z.ai.length+1:=by
 unfold nd
 split
 ·split
  ·exact ⟨(by decide:bz (tp [] [])),Nat.zero_le _⟩
  ·refine ⟨T3 ?_,Nat.le_trans (afz _ _) ?_⟩
   ·have h1:=u2 jh (gm n t.toNat 1) z.ai
    unfold bz sy at hz
    omega
   ·have:=List.length_filter_le (gm n t.toNat 1) z.ai
    omega
 ·exact ⟨(by decide:bz (tp [] [])),Nat.zero_le _⟩
set_option maxHeartbeats 4000000 in
theorem ayx (z:bp) (s:az) (n:Name) (t:UInt16) (hw:sy z+jh s<16777216) (hn:bw n) (hf:(z.ai.length≤40∧∀ x ∈ z.ai,x.data.length≤20)∧s.data.length≤20):wl PP [awl,av5,adz,af9,F8] 0 (n5 5 (jx 3 (Tryz.f6.body.getD .skip))) (Ga (fun L st=>(∃ o k,lk L (11) = .ptr o 0∧st.h.get o=some (.row (br.cells true ((vv z s).1)) k 2 41))∧(∃ o k,lk L (15) = .ptr o 0∧st.h.get o=some (.row (br.cells true ((nd z n t).1)) k 2 41))) noQ) [(4,.fy [.vl false 1 (z.origin.map (aj.val false)),.vl false 5 (z.ai.map (ah.val false))]),(5,.fy [.vl false 1 (s.owner.map (aj.val false)),.sc (.int .u16 s.type.toNat),.sc (.int .u16 s.cls.toNat),.sc (.int .u32 s.ey.toNat),.vl false 4 (s.data.map (aq.val false))]),(2,.vl false 1 (n.map (aj.val false))),(3,.sc (.int .u16 t.toNat)),(9,.fy [.vl false 1 (z.origin.map (aj.val false)),.vl false 5 (z.ai.map (ah.val false))]),(10,.fy [.vl false 1 (s.owner.map (aj.val false)),.sc (.int .u16 s.type.toNat),.sc (.int .u16 s.cls.toNat),.sc (.int .u32 s.ey.toNat),.vl false 4 (s.data.map (aq.val false))])] (bj []):=by
 have hz:bz z:=by unfold bz;omega
 have hs:cd s:=by unfold cd;omega
 have hl:z.ai.length<1048576:=by have:=hf.1.1;omega
 have hd:∀ x ∈ z.ai,x.data.length≤1048576:=fun x hx=>Nat.le_trans (hf.1.2 x hx) (by decide)
 have hd2:s.data.length≤1048576:=Nat.le_trans hf.2 (by decide)
 have hA1:=(Ql hw).1
 have hC1:=(Ie (n:=n) (t:=t) hz).1
 obtain ⟨A,hA⟩:∃ A,A=vv z s:=⟨_,rfl⟩
 obtain ⟨C,hC⟩:∃ C,C=nd z n t:=⟨_,rfl⟩
 rw [← hA] at hA1 ⊢
 rw [← hC] at hC1 ⊢
 unfold Tryz.f6
 simp only [↓wR,RA,simprocAttr,TF,ae,↓j7,↓pr,↓kp,↓ko,↓np,↓nm,↓u4,↓uz,↓xt,tl,vg,u0,Mj,Mn,C0,Dt,hw,hl,eq_true hd,hd2,hz,hn,← hA,← hC,xa,hA1,hC1,bne_self_eq_false,Jb]
 exact ⟨⟨_,_,rfl,rfl⟩,⟨_,_,rfl,rfl⟩⟩
def abk (S:Nat→Prop) (N Nn Nd M:Nat) (w:World) (l:List Value):Prop:=∃ o d,l=[o,d]∧nw S M w .str o∧my S N w 5 (Mf S Nn Nd M) d
theorem ahq (S:Nat→Prop) (N Nn Nd:Nat):Oy S 2 (abk S N Nn Nd):=by
 rintro m M xx w w' e j0 l l' hM ho hs hj h1 h2 hk ⟨o,d,rfl,hO,hd⟩
 match l',h2 with
 | [o',d'],_=>
  have e1:=(hk 0 o o' rfl rfl).same hs (by decide) hO.slice
  have e2:=(hk 1 d d' rfl rfl).same hs (by decide) hd.slice
  subst e1 e2
  exact ⟨_,_,rfl,hO.s6 (by decide) ho,Bl hM ho hd⟩
theorem aj5 {S:Nat→Prop} {N b0:Nat} {K:Nat→Nat→Prop} {w:World} {z:bp} {vs:List Value} (hS:∀ b,b0≤b→(∀ j,K b j)→S b) (hz:bz z) (hN:z.ai.length≤N) (hr:cf (gK b0 K) w (br.cells true z) vs):abk S N 16777216 16777216 16777216 w vs:=by
 have h2:vs.length=2:=hr.1
 match vs,h2,hr with
 | [o,d],_,hr=>
  have ho:Rel (gK b0 K) w (.vl true 1 (z.origin.map (aj.val true))) o:=hr.2 0 _ _ rfl rfl
  have hd:Rel (gK b0 K) w (.vl true 5 (z.ai.map (ah.val true))) d:=hr.2 1 _ _ rfl rfl
  exact ⟨o,d,rfl,L6 hS hz.origin ho,axv hS hz.ai.mem hN hd⟩
theorem auy (a b:Value):opsL PP [] (J2 (sw 8 (Tryz.f6.body.getD .skip))) ((J2 (sw 8 (Tryz.f6.body.getD .skip))).toList.take 1) (fun L st=>lk L 78 = .agg [.sc a,.sc b]) [(11,.fy [.sc a,.sc b])] (bj []):=by
 unfold Tryz.f6
 simp only [↓wR,RA,simprocAttr,TF,ae,↓j7,↓pr,↓kp,↓ko,↓np,↓nm,↓u4,↓uz,↓xt,tl,vg,u0,List.take_succ_cons,List.take_zero]
theorem at0 (a b:Value):opsL PP [] (J2 (sw 9 (Tryz.f6.body.getD .skip))) ((J2 (sw 9 (Tryz.f6.body.getD .skip))).toList.take 1) (fun L st=>lk L 80 = .agg [.sc a,.sc b]) [(15,.fy [.sc a,.sc b])] (bj []):=by
 unfold Tryz.f6
 simp only [↓wR,RA,simprocAttr,TF,ae,↓j7,↓pr,↓kp,↓ko,↓np,↓nm,↓u4,↓uz,↓xt,tl,vg,u0,List.take_succ_cons,List.take_zero]
theorem aup (z:bp) (s:az) (n:Name) (t:UInt16) (hz:bz z) (hs:cd s):wl PP [F8,Rt] 0 (jx 10 (Tryz.f6.body.getD .skip)) (fun e L st=>e = .ret∧lk L 8 = .sc (.bool true)) [(4,.fy [.vl false 1 (z.origin.map (aj.val false)),.vl false 5 (z.ai.map (ah.val false))]),(5,.fy [.vl false 1 (s.owner.map (aj.val false)),.sc (.int .u16 s.type.toNat),.sc (.int .u16 s.cls.toNat),.sc (.int .u32 s.ey.toNat),.vl false 4 (s.data.map (aq.val false))]),(2,.vl false 1 (n.map (aj.val false))),(3,.sc (.int .u16 t.toNat)),(9,.fy [.vl false 1 (z.origin.map (aj.val false)),.vl false 5 (z.ai.map (ah.val false))]),(10,.fy [.vl false 1 (s.owner.map (aj.val false)),.sc (.int .u16 s.type.toNat),.sc (.int .u16 s.cls.toNat),.sc (.int .u32 s.ey.toNat),.vl false 4 (s.data.map (aq.val false))])] (bj []):=by
 unfold Tryz.f6
 simp only [↓wR,RA,simprocAttr,TF,ae,↓j7,↓pr,↓kp,↓ko,↓np,↓nm,↓u4,↓uz,↓xt,tl,vg,u0,xa,hz,ze,hs,Jb]
theorem apy:(da PP Tryz.f6.results.toList (fun r st=>(r1 bo).get true st.h r=some true)) .ret [(8,.sc (.bool true))] (bj []):=by
 unfold Tryz.f6
 simp only [↓wR,RA,simprocAttr,TF,ae]
theorem Q6 {B:fv} {nt L st g a w} (hh:lf B nt L st g a w) {t:Nat} {x y:Value} (h:lk L t = .agg [.sc x,.sc y]):a.tmps.getD t undef = .agg #[x,y]:=by
 have:=hh.sl.2 t
 rw [h] at this
 exact this.exact rfl
theorem ana:ar PP [aAi,agi,wz]:=(ar.cons (ak as0) (ar.cons (ak aa2) (ar.cons (ak ou) (ar.nil PP))))
theorem aod:ar PP [awl,av5,adz,af9,F8]:=(ar.cons (ak anv) (ar.cons (ak aoj) (ar.cons (ak aak) (ar.cons (ak aax) (ar.cons (ak H3) (ar.nil PP))))))
theorem al0:ar PP [F8,Rt]:=(ar.cons (ak H3) (ar.cons (ak Kj) (ar.nil PP)))
set_option maxHeartbeats 4000000 in
theorem ain {B:fv} (hnf:B.mw) (hp:B.a9=0) (hO:∀ b,¬ B.O b) (hn0:B.n0≤B.w.heap.size) {z:bp} {s:az} {n:Name} {t:UInt16} (hw:sy z+jh s<16777216) (hn:bw n) {g:Gh} {ac:Act} {w:World}
 (hh:lf B (90:Nat) (cj 0 [br.val false z,ah.val false s,au.val false n,cg.val false t]) (bj []) g ac w):((Tryz.f6.body.getD .skip)).wpIn (i9 none) 0 PP (Fin B (90:Nat) (da PP Tryz.f6.results.toList (fun r st=>(r1 bo).get true st.h r=some true))) ac w:=by
 have hz:bz z:=by unfold bz;omega
 have hs:cd s:=by unfold cd;omega
 refine M4 ana (by kernel_rfl) hnf (by omega) hn0 (Q:=Ga (fun L st=>((z.ai.length≤40∧∀ x ∈ z.ai,x.data.length≤20)∧s.data.length≤20)∧(aP br (aP ah (aC au (aC cg (aP br (aP ah a0)))))).get st.h [lk L 4,lk L 5,lk L 2,lk L 3,lk L 9,lk L 10]=some (z,s,n,t,z,s,())) (da PP Tryz.f6.results.toList (fun r st=>(r1 bo).get true st.h r=some true))) 2 (Tryz.f6.body.getD .skip) (by kernel_rfl) (by kernel_rfl) ?_ _ _ g ac w (by rw [hp];exact aw7 z s n t hz hs hn) hh
 rintro e L1 gu g1 a1 w1 hq hh1
 cases e with
 |ret=>exact ⟨.ret,L1,gu,g1,rfl,hq,hh1.cur,hh1.sl,hh1.Is⟩
 |exit id=>exact hq.elim
 |normal=>
 obtain ⟨hf,ew⟩:=hq
 have hr1:=hh1.read (aP br (aP ah (aC au (aC cg (aP br (aP ah a0)))))) [4,5,2,3,9,10] ew
 have hnt1:=akl [4,5,2,3,9,10] hh1.sl.1
 refine M4 aod (by kernel_rfl) (I3 w1 a1.defers) (Nat.zero_le _) (Nat.le_refl _) (nt:=D4 90 [4,5,2,3,9,10] a1.tmps) (Q:=Ga (fun L st=>(∃ o k,lk L (11) = .ptr o 0∧st.h.get o=some (.row (br.cells true ((vv z s).1)) k 2 41))∧(∃ o k,lk L (15) = .ptr o 0∧st.h.get o=some (.row (br.cells true ((nd z n t).1)) k 2 41))) noQ) 4 (jx 3 (Tryz.f6.body.getD .skip)) (by kernel_rfl) (Gs (x:=#[]) (by kernel_rfl)) ?_ _ _ _ a1 w1 (ayx z s n t hw hn hf) (O6 hnt1 (at7 hr1))
 rintro e L2 st2 g2 a2 w2 hq hh2
 cases e with
 |ret=>exact hq.elim
 |exit id=>exact hq.elim
 |normal=>
 obtain ⟨⟨oa,ka,hpa,hra⟩,⟨oc,kc,hpc,hrc⟩⟩:=hq
 obtain ⟨ba,csa,ea,hba,hha,hla⟩:=hh2.box hpa hra
 obtain ⟨bc,csc,ec,hbc,hhc,hlc⟩:=hh2.box hpc hrc
 obtain ⟨S,hS⟩:∃ S:Nat→Prop,S=fun b=>w1.heap.size≤b:=⟨_,rfl⟩
 have hS1:∀ b,w1.heap.size≤b→S b:=fun b h=>by rw [hS];exact h
 have hS0:∀ b,b<w1.heap.size→¬ S b:=fun b h q=>by rw [hS] at q;exact Nat.not_le.2 h q
 have hA:=Ql (z:=z) (s:=s) hw
 have hC:=Ie (z:=z) (n:=n) (t:=t) hz
 have hz40:=hf.1.1
 have hTa:abk S 41 16777216 16777216 16777216 w2 csa.toList:=aj5 (fun b h _=>hS1 b h) hA.1 (by omega) (hh2.awu br hla)
 have hTc:abk S 41 16777216 16777216 16777216 w2 csc.toList:=aj5 (fun b h _=>hS1 b h) hC.1 (by omega) (hh2.awu br hlc)
 have hM2:Dm S w1 a1.defers a2.defers w2:=(Dm.start S w1 a1.defers).later hh2
 have hnt2:=akl [4,5,2,3,9,10,11,15] hh2.sl.1
 obtain ⟨va,vb,hcsa,hLa,hSa⟩:=id hTa
 have hva:a2.tmps.getD 11 undef = .pointer (some ⟨ba,0,none⟩):=ea
 have hpa2:=aj6 (g:=gK w2.heap.size (ym w2)) hha (fun j=>cb hha)
 rw [hcsa,← hva] at hpa2
 have hd8:jx (4+1) (jx 3 (Tryz.f6.body.getD .skip))=jx 8 (Tryz.f6.body.getD .skip):=by kernel_rfl
 rw [hd8]
 show (jx 8 (Tryz.f6.body.getD .skip)).wpIn (i9 none) 0 PP _ a2 w2
 refine X8 (ar.nil PP) (I3 w2 a2.defers) (nt:=D4 90 [4,5,2,3,9,10,11,15] a2.tmps) (n:=1) (by kernel_rfl) (by kernel_rfl) (Gs (x:=#[]) (by kernel_rfl)) (d:=some 79) (f:=51) (args:=[78]) (by kernel_rfl) (by kernel_rfl) (auy va vb) (O6 hnt2 (au5 (fun p hp=>by rw [List.mem_singleton] at hp;subst hp;exact hpa2))) ?_
 intro L3 st3 g3 a3 w3 h78 hh3
 have q3:=hh3.quiet S 0 true
 have hM3:=hM2.later hh3
 show Calls PP _ #[a3.tmps.getD 78 undef] w3 _
 rw [Q6 hh3 h78]
 refine (Lf (N:=41) (Nn:=16777216) (Nd:=16777216) (M:=16777216+0) (by decide) (by decide) (fun b hb=>hS1 b (Nat.le_trans hM3.size hb)) (hLa.s6 (by decide) q3) (Bl (by decide) q3 hSa)).mono ?_
 rintro e w4 ⟨r,rfl,ho4⟩
 refine ⟨r,rfl,fun a4 hd4 hnt4 _=>?_⟩
 have hM4:Dm S w1 a1.defers a4.defers w4:=by rw [hd4];exact hM3.s6 ho4
 obtain ⟨csc',hhc4,hsc4,hTc4⟩:=aw0 (ahq S 41 16777216 16777216) (by decide) (q3.trans ho4) hhc alb hlc.1 hTc
 obtain ⟨vc,vd,hcsc,hLc,hSc⟩:=id hTc4
 have hvc:a4.tmps.getD 15 undef = .pointer (some ⟨bc,0,none⟩):=(ako hnt4 (by decide)).trans ec
 have hpc4:=aj6 (g:=gK w4.heap.size (ym w4)) hhc4 (fun j=>cb hhc4)
 rw [hcsc,← hvc] at hpc4
 refine X8 (ar.nil PP) (I3 w4 a4.defers) (nt:=D4 90 [4,5,2,3,9,10,11,15] a2.tmps) (n:=1) (by kernel_rfl) (by kernel_rfl) (Gs (x:=#[]) (by kernel_rfl)) (d:=some 81) (f:=51) (args:=[80]) (by kernel_rfl) (by kernel_rfl) (at0 vc vd) (O6 hnt4 (au5 (fun p hp=>by rw [List.mem_singleton] at hp;subst hp;exact hpc4))) ?_
 intro L5 st5 g5 a5 w5 h80 hh5
 have q5:=hh5.quiet S 0 true
 have hM5:=hM4.later hh5
 show Calls PP _ #[a5.tmps.getD 80 undef] w5 _
 rw [Q6 hh5 h80]
 refine (Lf (N:=41) (Nn:=16777216) (Nd:=16777216) (M:=16777216+(0+(1+41 * (1+16777216 * (16777216+3))))+0) (by decide) (by decide) (fun b hb=>hS1 b (Nat.le_trans hM5.size hb)) (hLc.s6 (by decide) q5) (Bl (by decide) q5 hSc)).mono ?_
 rintro e w6 ⟨r6,rfl,ho6⟩
 refine ⟨r6,rfl,fun a6 hd6 hnt6 _=>?_⟩
 have hM6:Dm S w1 a1.defers a6.defers w6:=by rw [hd6];exact hM5.s6 ho6
 have hfix:([4,5,2,3,9,10]).map (fun t=>a6.tmps.getD t undef)=([4,5,2,3,9,10]).map (fun t=>a1.tmps.getD t undef):=(ae4 hnt6 (by decide)).trans (ae4 hh2.sl.1 (by decide))
 have hr6:=cf.low hM6 hS0 hr1
 rw [← hfix] at hr6
 refine aqx al0 (by kernel_rfl) (I3 w6 a6.defers) (Nat.zero_le _) (Nat.le_refl _) (nt:=D4 90 [4,5,2,3,9,10,11,15] a2.tmps) (Gs (x:=#[]) (by kernel_rfl)) ?_ (aup z s n t hz hs) (O6 hnt6 (at7 hr6))
 rintro e L7 st7 g7 a7 w7 ⟨rfl,h4⟩ hh7
 exact Dm.fin hp hnf hn0 hh1 (hM6.later hh7) hS0 hO (aqy hh7.sl.1 rfl) (hh7.exact h4) (e:=.ret) apy
noncomputable def Sz (x:bp × az × Name × UInt16 × Unit):Option AV:=open Classical in if sy x.1+jh x.2.1<16777216∧bw x.2.2.1 then some ((r1 bo).E true true) else none
set_option maxRecDepth 2000000 in
theorem am1 (x:bp × az × Name × UInt16 × Unit) (r:AV) (h:Sz x=some r):bk PP 6 ((aC br (aC ah (aC au (aC cg a0)))).E x) r:=by
 by_cases hc:sy x.1+jh x.2.1<16777216∧bw x.2.2.1
 case neg=>simp only [Sz,if_neg hc] at h;cases h
 simp only [Sz,if_pos hc] at h
 cases h
 exact Fc (body:=(Tryz.f6.body.getD .skip)) Tryz.func6 (by kernel_rfl) (by kernel_rfl) (Nat.le_of_ble_eq_true (by kernel_rfl)) (r1 bo) true true (fun B g a w hnf hp hO hn0 hh=>ain hnf hp hO hn0 hc.1 hc.2 hh)
end Go.Proofs.YtgencolcibpcaaaGreat
end
section
namespace Go.Proofs.YtgencolcibpcaaaGreat
open Go.Vm
set_option maxRecDepth 2000000
noncomputable section
def muP {α β:Type} (μ : α→Nat) (ν : β→Nat) (p : α × β):Nat:=μ p.1 + ν p.2
def Dr {α:Type} (μ : α→Nat) (l:List α):Nat:=tk μ l+1
def Py {α:Type} (_ : α):Nat:=1
def muI {α β:Type} (f : β → α) (μ : α→Nat) (y : β):Nat:=μ (f y)+1
def W9 (P:Program) (t:TypeId):List Field:=match P.underlying t with|some (.struct fs)=>fs.toList|_=>[]
def azn (l:List Field):Nat:=match l with|f::_=>f.offset | []=>0
def tyH (l:List Field):TypeId:=match l with|f::_=>f.type | []=>0
def awn (l:List Field):Bool:=match l with|_::_=>true | []=>false
def aCi (l:List Field):Bool:=match l with | [_]=>true|_=>false
theorem Ry {P:Program} {l:List Field} {off:Nat} {t:TypeId} {α:Type} {C:dm α} {μ : α→Nat} (hl:aCi l=true) (ho:azn l=off) (ht:tyH l=t) (hs:P.cellsOf t=C.sz) (h:Rd P t C μ):Zj P l off C μ:=by
 match l,hl with
 | [f],_=>subst ht;exact fun {H}=>ayr ho hs h
theorem tr {P:Program} {l:List Field} {off:Nat} {t:TypeId} {α β:Type} {A:dm α} {B:dm β} {μ : α→Nat} {ν : β→Nat} (hl:awn l=true) (ho:azn l=off) (ht:tyH l=t) (hs:P.cellsOf t=A.sz) (h:Rd P t A μ) (hr:Zj P l.tail (off+A.sz) B ν):Zj P l off (m4 A B) (muP μ ν):=by
 match l,hl with
 |f::fs,_=>subst ht;exact fun {H}=>ate ho hs h hr
theorem Jh {P:Program} {t:TypeId} {α β:Type} {C:dm α} {μ : α→Nat} {f : β → α} {i : α → β} {h1:∀ y,i (f y)=y} {h2:∀ x,f (i x)=x} (ht:awn (W9 P t)=true) (hc:P.cellsOf t=C.sz) (h:Zj P (W9 P t) 0 C μ):Rd P t (Db C f i h1 h2) (muI f μ):=by
 unfold W9 at ht h
 cases hu:P.underlying t with
 |none=>rw [hu] at ht;cases ht
 |some d=>
  rw [hu] at ht h
  cases d with
  |struct fs=>exact fun {H}=>aAn (arc hu hc h)
  |_=>cases ht
theorem yi {P:Program} {t e:TypeId} {α:Type} {C:dm α} {μ : α→Nat} (ht:P.underlying t=some (.slice e)) (hsz:P.cellsOf e=C.sz) (hpos : 0<C.sz) (he:Rd P e C μ):Rd P t (cq C) (Dr μ):=axk ht hsz hpos he
def Pa (s:ByteArray):Nat:=s.size+1
theorem rdS:Rd PP 9 aj Pa:=aAs (by kernel_rfl)
def pz:Name→Nat:=Dr Pa
theorem Vr:Rd PP 24 au pz:=yi (e:=9) (by kernel_rfl) (by kernel_rfl) (by decide) rdS
theorem ayk:Rd PP 23 au pz:=yi (e:=9) (by kernel_rfl) (by kernel_rfl) (by decide) rdS
theorem aw1:Rd PP 59 (cq au) (Dr pz):=yi (e:=24) (by kernel_rfl) (by kernel_rfl) (by decide) Vr
theorem azq:Rd PP 98 (cq cw) (Dr Py):=yi (e:=28) (by kernel_rfl) (by kernel_rfl) (by decide) (ao3 (by kernel_rfl))
theorem aBr:Rd PP 99 (cq bu) (Dr Py):=yi (e:=5) (by kernel_rfl) (by kernel_rfl) (by decide) (aA5 (by kernel_rfl))
def Ih (d:bt):Nat:=Dr pz d.names+(Dr Py d.nums+(pz d.texts+Dr Py d.raw))+1
theorem azf:Rd PP 101 aq Ih:=
 Jh (by kernel_rfl) (by kernel_rfl) (tr (by kernel_rfl) (by kernel_rfl) (by kernel_rfl) (by kernel_rfl) aw1 (tr (by kernel_rfl) (by kernel_rfl) (by kernel_rfl) (by kernel_rfl) azq (tr (by kernel_rfl) (by kernel_rfl) (by kernel_rfl) (by kernel_rfl) ayk (Ry (by kernel_rfl) (by kernel_rfl) (by kernel_rfl) (by kernel_rfl) aBr))))
theorem axr:Rd PP 29 (cq aq) (Dr Ih):=yi (e:=101) (by kernel_rfl) (by kernel_rfl) (by decide) azf
theorem apj:Rd PP 26 cg Py:=ap3 (by kernel_rfl)
theorem axp:Rd PP 27 cg Py:=ap3 (by kernel_rfl)
theorem aBb:Rd PP 28 cw Py:=ao3 (by kernel_rfl)
def J6 (s:az):Nat:=pz s.owner+(1+(1+(1+Dr Ih s.data)))+1
theorem awq:Rd PP 31 ah J6:=
 Jh (by kernel_rfl) (by kernel_rfl) (tr (by kernel_rfl) (by kernel_rfl) (by kernel_rfl) (by kernel_rfl) Vr (tr (by kernel_rfl) (by kernel_rfl) (by kernel_rfl) (by kernel_rfl) apj (tr (by kernel_rfl) (by kernel_rfl) (by kernel_rfl) (by kernel_rfl) axp (tr (by kernel_rfl) (by kernel_rfl) (by kernel_rfl) (by kernel_rfl) aBb (Ry (by kernel_rfl) (by kernel_rfl) (by kernel_rfl) (by kernel_rfl) axr)))))
theorem aAq:Rd PP 22 (cq ah) (Dr J6):=yi (e:=31) (by kernel_rfl) (by kernel_rfl) (by decide) awq
def Tf (z:bp):Nat:=pz z.origin+Dr J6 z.ai+1
theorem aza:Rd PP 41 br Tf:=
 Jh (by kernel_rfl) (by kernel_rfl) (tr (by kernel_rfl) (by kernel_rfl) (by kernel_rfl) (by kernel_rfl) Vr (Ry (by kernel_rfl) (by kernel_rfl) (by kernel_rfl) (by kernel_rfl) aAq))
theorem Oi (n:Name):ca n=pz n:=by
 suffices h:∀ (n:Name) (k:Nat),n.foldl (fun k s=>k+(s.size+1)) k=k+tk Pa n by
  have:=h n 1;simp only [ca,pz,Dr];omega
 intro n
 induction n with
 |nil=>intro k;rfl
 |cons a n ih=>intro k;rw [List.foldl_cons,ih];simp only [tk,Pa];omega
theorem O1 {α:Type} {f μ : α→Nat} {c:Nat} {l:List α} (h:∀ x,f x+1≤c * μ x):gj f l≤c * tk μ l:=by
 induction l with
 |nil=>simp [gj,tk]
 |cons a l ih=>
  have:=h a
  simp only [gj,List.foldr_cons,tk,Nat.mul_add] at ih ⊢
  omega
theorem ajn {α:Type} (l:List α):tk Py l=l.length:=by
 induction l with
 |nil=>rfl
 |cons a l ih=>simp only [tk,ih,Py,List.length_cons];omega
theorem ayf (d:bt):Ba d+1≤3 * Ih d:=by
 have h1:=O1 (f:=ca) (μ:=pz) (c:=2) (l:=d.names) (fun n=>by rw [Oi];simp only [pz,Dr];omega)
 have h2:=O1 (f:=ByteArray.size) (μ:=Pa) (c:=1) (l:=d.texts) (fun n=>by unfold Pa;omega)
 have h3:=ajn d.nums
 have h4:=ajn d.raw
 simp only [Ba,Ih,pz,Dr] at *
 omega
theorem asf (s:az):jh s+1≤4 * J6 s:=by
 have h1:=O1 (f:=Ba) (μ:=Ih) (c:=3) (l:=s.data) ayf
 have h2:=Oi s.owner
 simp only [jh,J6,pz,Dr] at *
 omega
theorem axu (z:bp):sy z≤4 * Tf z:=by
 have h1:=O1 (f:=jh) (μ:=J6) (c:=4) (l:=z.ai) asf
 have h2:=Oi z.origin
 simp only [sy,Tf,pz,Dr] at *
 omega
theorem aln {n:Name} (h:pz n≤1048576):bw n:=by unfold bw;rw [Oi];omega
end
end Go.Proofs.YtgencolcibpcaaaGreat
end
section
namespace Go.Proofs.YtgencolcibpcaaaGreat
open Go.Vm Go.ChangeShapes Go.WideShapes Go.ChangeAt
mutual
theorem Vd {H:Type}:∀ d:DataW H,Rows.uptoBulk d=mg d
 |.lit l=>by cases l<;>simp only [Rows.uptoBulk,mg]
 |.nil=>by simp only [Rows.uptoBulk,mg]
 |.ptr d=>by simp only [Rows.uptoBulk,mg,Vd d]
 |.slice a b=>by simp only [Rows.uptoBulk,mg,Md a,Md b]
 |.agg a=>by simp only [Rows.uptoBulk,mg,Md a]
 |.iface _ d=>by simp only [Rows.uptoBulk,mg,Vd d]
 |.map e=>by simp only [Rows.uptoBulk,mg,aqn e]
 |.held _=>by simp only [Rows.uptoBulk,mg]
theorem Md {H:Type}:∀ l:List (DataW H),Rows.uptoBulkAll l=nh l
 | []=>by simp only [Rows.uptoBulkAll,nh]
 |d::r=>by simp only [Rows.uptoBulkAll,nh,Vd d,Md r]
theorem aqn {H:Type}:∀ l:List (Lit × DataW H),Rows.uptoBulkEntries l=U1 l
 | []=>by simp only [Rows.uptoBulkEntries,U1]
 |x::r=>by simp only [Rows.uptoBulkEntries,U1,aAr x,aqn r]
theorem aAr {H:Type}:∀ x:Lit × DataW H,Rows.uptoBulkEntry x=anq x
 |(l,d)=>by cases l<;>simp only [Rows.uptoBulkEntry,anq,Vd d]
end
theorem api {H:Type} {l:List (DataW H)} (h:Rows.uptoSmall H l=true):nh l≤1048576:=by
 have:=of_decide_eq_true h
 rwa [Md] at this
theorem anc {H:Type} {enc:TypeId × Value→H} {C:Checked} {os:Os} {f:FuncId} {fn:Func} {s:OpenSpec} {k:(H:Type)→List (DataW H)→Bool} (hk:s.cond=some k) {conds:List PathCond} {apart:Bool} (modest:Bool) (i:Input) (fuel:Nat)
 (hv:(World.plainHolding C.prog os i).variablesB C.prog=true)
 (hr:((World.plainHolding C.prog os i).heap.toList.drop C.prog.globals.size).take ((begin C.prog (fun _ _=>0) default).world.heap.size - C.prog.globals.size) =
  (begin C.prog (fun _ _=>0) default).world.heap.toList.drop C.prog.globals.size)
 (hok:Input.okWideB C.prog (World.plainHolding C.prog os i) f ⟨#[],i.args,[]⟩=true)
 (hx:(match DataW.whole enc C.prog (World.plainHolding C.prog os i).memory fn.params.toList s.vars apart i.args.toList fuel with
  |some x=>conds.all (PathCond.test C.prog ⟨fn.params.toList,x.1,s.bare.plain.varTypes C.prog,x.2.1⟩) && k H (x.1++x.2.1)
  |none=>false)=true)
 (hsz:s.bare.sizedB enc C.prog fn apart (World.plainHolding C.prog os i).memory i.args fuel=true) :
 ∃ (w:World) (tape:Tape) (i:Input),w.os=os∧(w.forCall tape i).Shaped C.prog∧i.vars=[]∧Input.okWide C.prog (w.forCall tape i) .any w.heap.size f i ∧
  s.pre6 enc C.prog fn conds apart (w.forCall tape i).memory i.args∧({ modest:=modest }:Assume).holds C.prog (lone (Frame.enter C.prog f i.args .normal) [] (w.forCall tape i)):=by
 cases hd:DataW.whole enc C.prog (World.plainHolding C.prog os i).memory fn.params.toList s.vars apart i.args.toList fuel with
 |none=>rw [hd] at hx;cases hx
 |some x=>
  rw [hd] at hx
  simp only [Bool.and_eq_true] at hx
  exact OpenSpec.witness hk modest i fuel hv hr hok hd hx.1 hx.2 hsz
end Go.Proofs.YtgencolcibpcaaaGreat
end
section
set_option maxRecDepth 2000000
namespace Go.Proofs.YtgencolcibpcaaaGreat.zoneTurns
open Go.Vm Go.ChangeShapes Go.WideShapes Go.ChangeAt
theorem atj (x:bp × az × Name × UInt16 × Unit) (h:(Tf x.1+(J6 x.2.1+(pz x.2.2.1+(Py x.2.2.2.1+0))))≤1048576):bk PP 6 ((aC br (aC ah (aC au (aC cg a0)))).E x) (.sc (.bool true)):=
 am1 x _ (by unfold Sz;exact if_pos ⟨by have h1:=axu x.1;have h2:=asf x.2.1;omega,aln (by omega)⟩)
theorem own:ownKnob PP.godebug=none:=by kernel_rfl
theorem ay5:PP.underlying 4=some .bool:=by kernel_rfl
theorem lifted (os:Os) (started:os.Started) (H:Type) (enc:TypeId × Value→H) (F:Stop.Interp) :
 ReturnsInHanded {} Tryz.checked os 6 .any ((Rows.OpenSpec.upto Rows.zoneTurnsSpec).pre6 enc Tryz.prog Tryz.f6 Rows.zoneTurnsUptoRow.domain false) (((Rows.OpenSpec.upto Rows.zoneTurnsSpec).at F).post enc Tryz.prog Tryz.f6 false true false false):=by
 refine returnsInHanded_of_cond (C:=Tryz.checked) (k:=Rows.uptoSmall) rfl own started (by kernel_rfl) Tryz.func6
  (anc (enc:=enc) (C:=Tryz.checked) rfl false ⟨#[],Tryz.f6.params.map fun t=>((PP.info? t).bind (·.zero)).getD undef,[]⟩ 8 (by kernel_rfl) (by kernel_rfl) (by kernel_rfl) (by kernel_rfl) (by kernel_rfl)) ?_
 intro W base args ds gs before hval hW _ hk _
 exact avq (by kernel_rfl) (by kernel_rfl) (aao (by kernel_rfl)) (tb:=4) (by kernel_rfl) rfl (by kernel_rfl) ay5 (am7 (by kernel_rfl))
  (fun H ds hl=>by match ds,(show ds.length=4 from hl) with | [_,_,_,_],_=>rfl) (A:=(aC br (aC ah (aC au (aC cg a0))))) (Jo (by kernel_rfl) aza (Jo (by kernel_rfl) awq (Jo (by kernel_rfl) Vr (Jo (by kernel_rfl) apj (ax6 PP))))) (N:=some 1048576) (fun x hx=>atj x (hx _ rfl)) enc W base args ds gs before hval hW (fun n hn=>by cases hn;exact api hk)
theorem over:Rows.zoneTurnsUptoRow.holds Tryz.pinned (Rows.OpenSpec.upto Rows.zoneTurnsSpec):=
 OpenClaim.holds_of_cond 6 Tryz.f6 rfl rfl rfl rfl rfl rfl rfl ⟨rfl,rfl,rfl,rfl,rfl⟩ rfl rfl rfl rfl rfl (by kernel_rfl) Tryz.func6 (by kernel_rfl)
  (of_decide_eq_true (by kernel_rfl)) (by unfold Func.isWrapper;first|(rw [if_pos (by decide +kernel)];kernel_rfl)|(rw [if_neg (by decide +kernel)];exact ⟨rfl,rfl⟩))
  (fun os started H enc _ F=>lifted os started H enc F)
theorem proved : Rows.ZoneTurnsUptoSaid := over
end Go.Proofs.YtgencolcibpcaaaGreat.zoneTurns
end
