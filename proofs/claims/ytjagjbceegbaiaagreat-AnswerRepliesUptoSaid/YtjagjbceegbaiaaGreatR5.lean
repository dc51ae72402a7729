/- A piece of the proof of the law AnswerReplies: lemmas. No condition. -/
import Derived.Test.YtjagjbceegbaiaaGreatProg
import Derived.Test.YtjagjbceegbaiaaGreatRows
import Derived.Test.YtjagjbceegbaiaaGreatR4
set_option linter.unusedSimpArgs false
set_option linter.unusedVariables false
set_option linter.unusedSectionVars false
set_option maxRecDepth 2000000
section
namespace Go.Vm
variable [TK]
noncomputable section
def ahq (a b:AV) (e:M AV):M AV:=
 match a,b with
 |.sc (.int k x),.sc (.int _ y)=>.pure (.sc (.int k (if y<x then y else x)))
 |_,_=>e
def ag6 (a b:AV) (e:M AV):M AV:=
 match a,b with
 |.sc (.int k x),.sc (.int _ y)=>.pure (.sc (.int k (if y > x then y else x)))
 |_,_=>e
theorem axj (k k' x y e):ahq (.sc (.int k x)) (.sc (.int k' y)) e = .pure (.sc (.int k (if y<x then y else x))):=id rfl
theorem avl (k k' x y e):ag6 (.sc (.int k x)) (.sc (.int k' y)) e = .pure (.sc (.int k (if y > x then y else x))):=id rfl
theorem atw (P:Program) (ρ:Operand->AV) (d ty pos af gd) (x y:Operand) (ts):lf P ρ ⟨d,.call { callee:=.builtin .min,args:=#[x,y],argTypes:=ts },ty,pos,af,gd⟩ [x,y]=ahq (ρ x) (ρ y) (Cd P ρ ⟨d,.call { callee:=.builtin .min,args:=#[x,y],argTypes:=ts },ty,pos,af,gd⟩ [x,y]):=by
 unfold ahq
 split
 ·rename_i k a k' b hx hy;have h2:execOp (fun z=>((ρ z).iu).getD undef) ⟨d,.call { callee:=.builtin .min,args:=#[x,y],argTypes:=ts },ty,pos,af,gd⟩=(do pure (Next.value (<- Builtin.min_ ts ty #[.int k a,.int k' b]))):=by
   simp [execOp,resolve,invoke,builtin,hx,hy,AV.iu]
  have h3:ev P (Builtin.min_ ts ty #[.int k a,.int k' b])=some (.int k (if b<a then b else a)):=by simp [Builtin.min_,Builtin.min2,ev];rfl
  unfold lf mj tm;simp [hx,hy,AV.iu];rw [h2,Mj,h3];rfl
 ·rfl
theorem asr (P:Program) (ρ:Operand->AV) (d ty pos af gd) (x y:Operand) (ts):lf P ρ ⟨d,.call { callee:=.builtin .max,args:=#[x,y],argTypes:=ts },ty,pos,af,gd⟩ [x,y]=ag6 (ρ x) (ρ y) (Cd P ρ ⟨d,.call { callee:=.builtin .max,args:=#[x,y],argTypes:=ts },ty,pos,af,gd⟩ [x,y]):=by
 unfold ag6
 split
 ·rename_i k a k' b hx hy;have h2:execOp (fun z=>((ρ z).iu).getD undef) ⟨d,.call { callee:=.builtin .max,args:=#[x,y],argTypes:=ts },ty,pos,af,gd⟩=(do pure (Next.value (<- Builtin.max_ ts ty #[.int k a,.int k' b]))):=by
   simp [execOp,resolve,invoke,builtin,hx,hy,AV.iu]
  have h3:ev P (Builtin.max_ ts ty #[.int k a,.int k' b])=some (.int k (if b > a then b else a)):=by simp [Builtin.max_,Builtin.max2,ev];rfl
  unfold lf mj tm;simp [hx,hy,AV.iu];rw [h2,Mj,h3];rfl
 ·rfl
theorem Px (P:Program) (T:fc) (ρ:Operand->AV) (d ty pos af gd) (s x ts):gw P T ⟨d,.call { callee:=.builtin .min,args:=#[s,x],argTypes:=ts },ty,pos,af,gd⟩ ρ=mono (ahq (ρ s) (ρ x) (Cd P ρ ⟨d,.call { callee:=.builtin .min,args:=#[s,x],argTypes:=ts },ty,pos,af,gd⟩ [s,x])):=by rw [<- atw];rfl
theorem apv {P:Program} {T:fc} {d ty pos af gd recs K L st} (s x ts):ia P T ⟨d,.call { callee:=.builtin .min,args:=#[s,x],argTypes:=ts },ty,pos,af,gd⟩ recs K L st=gn (true) (reach st.h ga (AV.names.go ([s,x].map (dv L))) []) ⟨d,.call { callee:=.builtin .min,args:=#[s,x],argTypes:=ts },ty,pos,af,gd⟩ recs K L st (mono (ahq (dv L s) (dv L x) (Cd P (dr ⟨d,.call { callee:=.builtin .min,args:=#[s,x],argTypes:=ts },ty,pos,af,gd⟩ L) ⟨d,.call { callee:=.builtin .min,args:=#[s,x],argTypes:=ts },ty,pos,af,gd⟩ [s,x]))):=by
 unfold ia ma m6 gn;simp only [ke,cond_false];have hm:∀ y,y ∈ ([s,x]:List Operand)->dr ⟨d,.call { callee:=.builtin .min,args:=#[s,x],argTypes:=ts },ty,pos,af,gd⟩ L y=dv L y:=fun y hy=>fj (by simpa [Op.operands,Call.operands] using hy)
 have hmap:([s,x]:List Operand).map (dr ⟨d,.call { callee:=.builtin .min,args:=#[s,x],argTypes:=ts },ty,pos,af,gd⟩ L)=([s,x]:List Operand).map (dv L):=i5 (fun y hy=>by simpa [Op.operands,Call.operands] using hy);have ho:(⟨d,.call { callee:=.builtin .min,args:=#[s,x],argTypes:=ts },ty,pos,af,gd⟩:Oper).op.operands.toList=[s,x]:=by simp [Op.operands,Call.operands]
 rw [ho,hmap];rw [Px,hm s (by simp),hm x (by simp)];rfl
theorem Qx (P:Program) (T:fc) (ρ:Operand->AV) (d ty pos af gd) (s x ts):gw P T ⟨d,.call { callee:=.builtin .max,args:=#[s,x],argTypes:=ts },ty,pos,af,gd⟩ ρ=mono (ag6 (ρ s) (ρ x) (Cd P ρ ⟨d,.call { callee:=.builtin .max,args:=#[s,x],argTypes:=ts },ty,pos,af,gd⟩ [s,x])):=by rw [<- asr];rfl
theorem aqb {P:Program} {T:fc} {d ty pos af gd recs K L st} (s x ts):ia P T ⟨d,.call { callee:=.builtin .max,args:=#[s,x],argTypes:=ts },ty,pos,af,gd⟩ recs K L st=gn (true) (reach st.h ga (AV.names.go ([s,x].map (dv L))) []) ⟨d,.call { callee:=.builtin .max,args:=#[s,x],argTypes:=ts },ty,pos,af,gd⟩ recs K L st (mono (ag6 (dv L s) (dv L x) (Cd P (dr ⟨d,.call { callee:=.builtin .max,args:=#[s,x],argTypes:=ts },ty,pos,af,gd⟩ L) ⟨d,.call { callee:=.builtin .max,args:=#[s,x],argTypes:=ts },ty,pos,af,gd⟩ [s,x]))):=by
 unfold ia ma m6 gn;simp only [ke,cond_false];have hm:∀ y,y ∈ ([s,x]:List Operand)->dr ⟨d,.call { callee:=.builtin .max,args:=#[s,x],argTypes:=ts },ty,pos,af,gd⟩ L y=dv L y:=fun y hy=>fj (by simpa [Op.operands,Call.operands] using hy)
 have hmap:([s,x]:List Operand).map (dr ⟨d,.call { callee:=.builtin .max,args:=#[s,x],argTypes:=ts },ty,pos,af,gd⟩ L)=([s,x]:List Operand).map (dv L):=i5 (fun y hy=>by simpa [Op.operands,Call.operands] using hy);have ho:(⟨d,.call { callee:=.builtin .max,args:=#[s,x],argTypes:=ts },ty,pos,af,gd⟩:Oper).op.operands.toList=[s,x]:=by simp [Op.operands,Call.operands]
 rw [ho,hmap];rw [Qx,hm s (by simp),hm x (by simp)];rfl
theorem MM0:type_of% @axj/\type_of% @avl/\type_of% @Px/\type_of% @Qx/\type_of% @apv/\type_of% @aqb:=
 ⟨@axj,@avl,@Px,@Qx,@apv,@aqb⟩
end
end Go.Vm
end
section
namespace Go.Proofs.YtjagjbceegbaiaaGreat
open Go.Vm
theorem acm {z:ay} {n:Name} (hz:bo z) (hn:aw n):aw (iz z n).1.node:=by
 by_cases h:ef z n=0
 ·rcases aau h with ⟨c,hc,e⟩|⟨hc,_,_,e⟩|⟨hc,_,_,e⟩|⟨hc,_,_,_,e⟩|⟨hc,_,_,_,e⟩<;>rw [e]
  ·exact Rb hz z.ak none (fun _ h=>h) (fun m hm=>by cases hm) c hc
  ·exact hn
  ·show cd []<=_;decide
  ·exact N7 (rz h).2.1
  ·show cd []<=_;decide
 ·rw [V0 h];show cd []<=_;decide
theorem aFf {z:ay} {n:Name} (h:(iz z n).2=0):ef z n=0:=by
 by_cases e:ef z n=0
 ·exact e
 ·rw [V0 e] at h;exact h
theorem acx {z:ay} {n:Name} {t:UInt16} (h:(ti z n t).2=0):ef z n=0/\(t.toNat:Int)≠0/\(t.toNat:Int)≠41/\(ti z n t).1=(iz z n).1:=by
 unfold ti at h ⊢
 split at h
 ·cases h
 ·rename_i q;rw [if_neg q];exact ⟨aFf h,fun e=>q ⟨h,.inl e⟩,fun e=>q ⟨h,.inr e⟩,rfl⟩
def ai2 (a b:UInt32):UInt32:=if (a.toNat:Int)<=b.toNat then a else b
def nl (z:ay):ba:=
 let s:=(tn z.ak z.origin 6).getD Vy
 mkS s.owner s.type s.cls (ai2 s.i9 (((s.data[0]?).bind fun d=>d.nums[4]?).getD 0)) s.data
theorem aBi (z:ay):∀ (l:List ba) (p:Nat × Nat),p.2<(l.foldl (ln z) p).2->∃ s ∈ l,(s.type.toNat:Int)=6/\dt s.owner z.origin=true:=by
 intro l
 induction l with
 |nil=>intro p h;exact absurd h (Nat.lt_irrefl _)
 |cons a l ih=>
  intro p h;rw [List.foldl_cons] at h;by_cases h2:(ln z p a).2<(l.foldl (ln z) (ln z p a)).2
  ·obtain ⟨s,hs,h3⟩:=ih _ h2;exact ⟨s,by simp [hs],h3⟩
  ·have h3:(ln z p a).2≠p.2:=zO;refine ⟨a,by simp,?_⟩;unfold ln at h3
   split at h3
   ·rename_i e6;dsimp only at h3
    split at h3
    ·rename_i e7;rw [zzh] at e7;exact ⟨e6,e7.1⟩
    ·exact (h3 rfl).elim
   ·exact (h3 rfl).elim
theorem ah7 {s:ba} (h:kh s=true):(s.cls.toNat:Int)=1/\(s.type.toNat:Int)≠255:=by
 unfold kh at h
 split at h
 ·cases h
 split at h
 ·cases h
 split at h
 ·cases h
 ·rename_i q _ _;exact ⟨zO,by simpa using h⟩
theorem Pn {z:ay} (h:fp z=0):∃ s,tn z.ak z.origin 6=some s:=by
 have hg:=Co h;have h2:(0:Nat)<(ik z).2:=by rw [hg.aJ6.2];decide
 obtain ⟨s,hs,e6,iP⟩:=aBi z z.ak (0,0) h2;have hc:=(ah7 (hg.cls s hs)).1;have hp:vq z.origin 6 s=true:=by unfold vq;rw [zp (show (s.type.toNat:Int)=(6:UInt16).toNat from e6),zp hc,iP];rfl
 cases hf:tn z.ak z.origin 6 with
 |some q=>exact ⟨q,rfl⟩
 |none=>exact absurd hp (by simpa using List.find?_eq_none.1 hf s hs)
theorem ay2 (z:ay) (hz:bo z) (he:fp z=0):wl PP [Q7] 0 (Tryz.f58.body.getD .skip) (c9 PP Tryz.f58.results.toList (fun r st=>(r1 ag).get true st.h r=some (nl z))) (cp 0 [bf.val false z]) (bg []):=by
 obtain ⟨s,hs⟩:=Pn he;obtain ⟨m1,m2,m3,m4⟩:=G4 hs;obtain ⟨d,k,hd,hk⟩:=ayb (ze he s m1) (by rw [m2];rfl);unfold Tryz.f58;simp only [dy];unfold nl;simp only [↓wR,zT,simprocAttr,aGr,Hl,hz.mid,hz.origin,hs];refine ⟨zK,.inl ?_⟩;have hm:(if (k.toNat:Int)<s.i9.toNat then (k.toNat:Int) else s.i9.toNat)=((ai2 s.i9 k).toNat:Int):=by unfold ai2;split<;>split<;>first|rfl|omega
 simp only [↓wR,zT,simprocAttr,hd,hk,MM0,hm];have hq:∀ a b c d,ft a b c=d->ft a b c=d:=fun _ _ _ _ h=>h
 apply hq;kernel_rfl
noncomputable def D7 (x:ay × Unit):Option AV:=if bo x.1/\fp x.1=0 then some ((r1 ag).E true (nl x.1)) else none
theorem Qj (x:ay × Unit) (r:AV) (h:D7 x=some r):bj PP 58 ((aC bf a0).E x) r:=by obtain ⟨hc,rfl⟩:=zI h;exact az (ar.cons (aq K2) (ar.nil PP)) Tryz.func58 zK zK zK zL (r1 ag) true (nl x.1) (ay2 x.1 hc.1 hc.2)
noncomputable abbrev abh:zE:=(58,true,cx (aC bf a0) D7)
def sj (n:Name) (s:ba):Bool:=(decide ((s.type.toNat:Int)=1) || decide ((s.type.toNat:Int)=28)) && dt s.owner n
def qn (z:ay):List Name->List Name->List ba
 |_,[]=>[]
 |pre,n::r=>(if pre.any (fun m=>dt m n)=true then [] else z.ak.filter (sj n))++qn z (pre++[n]) r
def vr (z:ay) (l:List Name):List ba:=qn z [] l
def j5 (l:List Name):Prop:=gu cd l<=16777216
instance (l:List Name):Decidable (j5 l):=inferInstanceAs (Decidable (_<=_))
theorem j5.mem {l:List Name} (h:j5 l):∀ n ∈ l,aw n:=fun n hn=>by have h1:cd n<gu cd l:=E8 hn;unfold j5 at h;unfold aw;omega
theorem j5.len {l:List Name} (h:j5 l):l.length<=16777216:=zzu (D3 cd l) h
theorem H5 {z:ay} (h:fp z=0):z.ak.length<=2048:=by
 have hs:=ze h;have hf:=(Co h).first
 unfold qc at hf
 split at hf
 ·contradiction
 have key:∀ (l:List ba) (e:Int),ov l e=0->e=0:=by
  intro l
  induction l with
  |nil=>intro e h;exact h
  |cons a l ih=>
   intro e h;rw [ov] at h;have h1:=ih _ h
   split at h1
   ·assumption
   ·exact h1
 have h1:=key _ _ hf;have h2:kj z.ak<=2048:=by
  unfold dg at h1
  split at h1
  ·cases h1
  ·rename_i q;by_cases hd:kj z.ak<=2048
   ·exact hd
   ·exact (q ⟨rfl,zq hd⟩).elim
 have h3:∀ (l:List ba) (k:Nat),(∀ s ∈ l,mu s=0)->k+l.length<=l.foldl (fun n s=>n+s.data.length) k:=by
  intro l
  induction l with
  |nil=>intro k _;exact zza _
  |cons a l ih=>
   intro k hl;obtain ⟨d,hd,_⟩:=Km (hl a (by simp));have : 0<a.data.length:=(zg.1 hd).1;have:=ih (k+a.data.length) (fun s hs=>hl s (by simp [hs]));rw [List.length_cons,List.foldl_cons];omega
 have:=h3 z.ak 0 hs;unfold kj at h2;omega
theorem F7 (z:ay):∀ (r pre:List Name),(qn z pre r).length<=r.length * z.ak.length:=by
 intro r
 induction r with
 |nil=>intro pre;simp [qn]
 |cons n r ih=>
  intro pre;have h1:=ih (pre++[n]);have h2:=n5 (l:=z.ak) (sj n);have h3:(r.length+1) * z.ak.length=r.length * z.ak.length+z.ak.length:=Nat.succ_mul _ _;rw [qn,za,List.length_cons,h3]
  split
  ·simp;omega
  ·omega
theorem ajl {z:ay} {l:List Name} {i:Nat} {n:Name} (hc:l[i]? = some n):qn z (l.take i) (l.drop i)=(if (l.take i).any (fun m=>dt m n)=true then [] else z.ak.filter (sj n))++qn z (l.take (i+1)) (l.drop (i+1)):=by obtain ⟨hi,rfl⟩:=zg.1 hc;rw [zzs hi,qn,zz5 hi]
set_option maxHeartbeats 4000000 in
theorem akx (z:ay) (l:List Name) (hz:bo z) (he:fp z=0) (hl:j5 l):wl PP [eg,Am] 0 (Tryz.f61.body.getD .skip) (c9 PP Tryz.f61.results.toList (fun r st=>(r1 (cg ag)).get true st.h r=some (vr z l))) (cp 0 [bf.val false z,(cg aj).val false l]) (bg []):=by
 have hzl:=H5 he;have hlen:=hl.len;have ok:ar PP [eg,Am]:=ar.cons (aq gy) (ar.cons (aq vy) (ar.nil PP));have qC:=F7 z l [];have lY:l.length * z.ak.length<=16777216 * 2048:=Nat.mul_le_mul hlen hzl;unfold Tryz.f61;simp only [dy];simp only [↓wR,zT,simprocAttr];refine fg [1,2,10,11,12,5] (fun (x:Nat × List ba)=>[zv l,.ptr 0 0,zv l,zi l.length,zi x.1,.sl 1 0 x.2.length 5]) (fun x=>[(zZ z),some (.row (cellsOf ag true (x.2)) 0 0 63)]) (fun x=>x.1<=l.length/\x.2++qn z (l.take x.1) (l.drop x.1)=vr z l) (fun x=>l.length - x.1) (0,[]) ⟨zzb _,by rw [List.take_zero,List.drop_zero];rfl⟩ zX ?_;rintro ⟨i,x⟩ ⟨hi,hx⟩;simp only at hi hx;simp only [↓wR,zT,simprocAttr];rw [bh];refine ⟨fun h=>?_,fun h=>?_⟩
 ·obtain ⟨n,hc,aF,hlt⟩:=du (zp h);rw [ajl hc] at hx;have bV:=hl.mem n (zm hc)
  repeat (first|simp only [↓wR,zT,simprocAttr,h,hc]|simp (disch:=omega) only [zW])
  obtain ⟨p,hp⟩:∃ p,p=l.take i:=⟨_,rfl⟩;have hpl:p.length<=l.length:=by rw [hp,zzl];omega
  have wK:∀ c ∈ p,c ∈ l:=fun c hc=>by rw [hp] at hc;exact zzr hc
  rw [<- hp] at hx ⊢;refine en (fun r st'=>r = .sc (.bool (p.any (fun m=>dt m n)))/\st'=bg [(zZ z),some (.row (cellsOf ag true (x)) 0 0 63),some (.row [aj.val false n] 0 2 23)]) rfl ?_ ?_
  ·refine ct (T:=[]) (ar.nil PP) mixed Tryz.func107 rfl zK zK zK zK ?_;unfold Tryz.f107;simp only [↓wR,zT,simprocAttr];refine ct (T:=[]) (ar.nil PP) mixed Tryz.func145 rfl zK zK zK zK ?_;unfold Tryz.f145;simp only [↓wR,zT,simprocAttr];refine dq [0,1,7,8] (fun (k:Nat)=>[zv p,.fn (.func 108) [] [.ptr 2 0],zi p.length,zi k]) (fun _=>[(zZ z),some (.row (cellsOf ag true (x)) 0 0 63),some (.row [aj.val false n] 0 2 23)]) (fun k=>k<=p.length/\(p.any fun m=>dt m n)=((p.drop k).any fun m=>dt m n)) (fun k=>p.length - k) 0 ⟨zzb _,rfl⟩ zS zS ?_;clear hx;rintro k ⟨hk,hx⟩;simp only [↓wR,zT,simprocAttr];rw [bh];refine ⟨fun h3=>?_,fun h3=>?_⟩
   ·obtain ⟨c,hc2,dM,hlt2⟩:=du (zp h3);rw [dM,List.any_cons] at hx;have hcs:=hl.mem c (wK c (zm hc2))
    repeat (first|simp only [↓wR,zT,simprocAttr,h3,hc2]|simp (disch:=omega) only [zW])
    refine ct (T:=[eg,Am]) ok mixed Tryz.func108 rfl zK zK zK zK ?_;unfold Tryz.f108;simp only [↓wR,zT,simprocAttr,j6,hcs,bV];rw [cw];refine ⟨fun h4=>?_,fun h4=>?_⟩
    ·rw [h4,Bool.true_or] at hx;simp only [↓wR,zT,simprocAttr,h4,jx,jo,ja,hx]
    ·rw [h4,Bool.false_or] at hx
     repeat (first|simp only [↓wR,zT,simprocAttr,h4]|simp (disch:=omega) only [zW])
     exact ⟨k+1,⟨hlt2,hx⟩,zO,zF⟩
   ·rw [eu (zq h3),List.any_nil] at hx;simp only [↓wR,zT,simprocAttr,h3,jx,jo,ja,hx]
  rintro _ _ ⟨rfl,rfl⟩;simp only [↓wR,zT,simprocAttr,gq];rw [cw];refine ⟨fun h2=>?_,fun h2=>?_⟩
  ·rw [if_pos h2,List.nil_append] at hx
   repeat (first|simp only [↓wR,zT,simprocAttr,h2]|simp (disch:=omega) only [zW])
   exact ⟨(i+1,x),⟨hlt,hx⟩,by simp;omega,zF⟩
  rw [h2,if_neg (by decide)] at hx;simp only [↓wR,zT,simprocAttr,h2];refine fg [1,2,7,10,11,12,23,24,25,5] (fun (y:Nat × List ba)=>[zv l,.ptr 0 0,.ptr 1 0,zv l,zi l.length,zi i,zs z.ak,zi z.ak.length,zi y.1,.sl 2 0 y.2.length 5]) (fun y=>[(zZ z),some (.row [aj.val false n] 0 2 23),some (.row (cellsOf ag true (y.2)) 0 0 63)]) (fun y=>y.1<=z.ak.length/\y.2++(z.ak.drop y.1).filter (sj n)=x++z.ak.filter (sj n)) (fun y=>z.ak.length - y.1) (0,x) ⟨zzb _,rfl⟩ zX ?_;rintro ⟨k,y⟩ ⟨hk,hy⟩;simp only at hk hy;have jO:y.length<=16777216 * 2048:=by have h5:=congrArg List.length hy;have h6:=congrArg List.length hx;unfold vr at h6;simp only [za] at h5 h6;omega
  simp only [↓wR,zT,simprocAttr];rw [bh];refine ⟨fun h3=>?_,fun h3=>?_⟩
  ·obtain ⟨c,hc2,dM,hlt2⟩:=du (zp h3);rw [Py dM] at hy;have hcs:=hz.set c (zm hc2);have aD:(y.length * 5+5) * 64<=140737488355328:=zO
   repeat (first|simp only [↓wR,zT,simprocAttr,h3,hc2]|simp (disch:=omega) only [zW])
   have pW:sj n c=true->(dt c.owner n=true):=fun q=>by simp only [sj,zzh] at q;exact q.2
   have lN:sj n c=true->(y++[c])++(z.ak.drop (k+1)).filter (sj n)=x++z.ak.filter (sj n):=fun q=>by rw [if_pos q] at hy;rw [<- hy,zzc]
   have step0:sj n c=false->y++(z.ak.drop (k+1)).filter (sj n)=x++z.ak.filter (sj n):=fun q=>by rw [q,if_neg (by decide),List.nil_append] at hy;exact hy
   clear hy pW;rw [cf];refine ⟨fun ⟨h4,e4⟩=>?_,fun ⟨h4,e4⟩=>?_⟩;rotate_left;simp only [↓wR,zT,simprocAttr,h4];rw [cf];refine ⟨fun ⟨h5,e5⟩=>?yes,fun ⟨h5,e5⟩=>?no⟩
   case no=>
    repeat (first|simp only [↓wR,zT,simprocAttr,h5]|simp (disch:=omega) only [zW])
    exact ⟨(k+1,y),⟨hlt2,step0 (by unfold sj;rw [zq e4,zq e5];rfl)⟩,by simp;omega,zF⟩
   have tK:(decide ((c.type.toNat:Int)=1) || decide ((c.type.toNat:Int)=28))=true:=by rw [zp e5,Bool.or_true]
   simp only [↓wR,zT,simprocAttr,h5];rotate_left;have tK:(decide ((c.type.toNat:Int)=1) || decide ((c.type.toNat:Int)=28))=true:=by rw [zp e4];rfl
   simp only [↓wR,zT,simprocAttr,h4]
   all_goals
    simp only [↓wR,zT,simprocAttr,j6,hcs.owner,bV];rw [cw];refine ⟨fun h6=>?_,fun h6=>?_⟩
    ·repeat (first|simp only [↓wR,zT,simprocAttr,h6,ry,hcs,aD]|simp (disch:=omega) only [zW])
     refine ⟨(k+1,y++[c]),⟨hlt2,lN (by unfold sj;rw [tK,h6];rfl)⟩,by simp;omega,zF,?_⟩;rw [kr]
    ·repeat (first|simp only [↓wR,zT,simprocAttr,h6]|simp (disch:=omega) only [zW])
     exact ⟨(k+1,y),⟨hlt2,step0 (by unfold sj;rw [h6,Bool.and_false])⟩,by simp;omega,zF⟩
  ·rw [eu (zq h3),List.filter_nil,zzn] at hy;subst hy
   repeat (first|simp only [↓wR,zT,simprocAttr,h3]|simp (disch:=omega) only [zW])
   exact ⟨(i+1,x++z.ak.filter (sj n)),⟨hlt,by rw [zzc];exact hx⟩,by simp;omega,zF⟩
 ·rw [eu (zq h)] at hx;rw [qn,zzn] at hx;subst hx;simp only [↓wR,zT,simprocAttr,h]
noncomputable def Ml (x:ay × List Name × Unit):Option AV:=if (bo x.1/\fp x.1=0)/\j5 x.2.1 then some ((r1 (cg ag)).E true (vr x.1 x.2.1)) else none
theorem Oa (x:ay × List Name × Unit) (r:AV) (h:Ml x=some r):bj PP 61 ((aC bf (aC (cg aj) a0)).E x) r:=by obtain ⟨hc,rfl⟩:=zI h;exact az (ar.cons (aq gy) (ar.cons (aq vy) (ar.nil PP))) Tryz.func61 zK zK zK zL (r1 (cg ag)) true (vr x.1 x.2.1) (akx x.1 x.2.1 hc.1.1 hc.1.2 hc.2)
noncomputable abbrev Y4:zE:=(61,true,cx (aC bf (aC (cg aj) a0)) Ml)
def pj (s:ba):Bool:=decide ((s.type.toNat:Int)=2) || (decide ((s.type.toNat:Int)=15) || decide ((s.type.toNat:Int)=33))
def ib (l:List cq):List Name:=l.flatMap fun d=>d.names
def lr (s:ba):List Name:=if pj s=true then ib s.data else []
def dz (l:List ba):List Name:=l.flatMap lr
def ow (ans:List ba) (s:ba):Bool:=ans.any fun x=>decide ((x.type.toNat:Int)=s.type.toNat) && dt x.owner s.owner
def vt (z:ay) (ans l:List ba):List ba:=(vr z (dz l)).filter fun s=>!ow ans s
def vz (l:List Name) (n:Name):Bool:=l.any fun m=>dt m n
theorem aos (b:H0) (n:Name) (hl:j5 b.seen) (hn:aw n):wl PP [eg] 0 (Tryz.f113.body.getD .skip) (c9 PP Tryz.f113.results.toList (fun r st=>(r1 bk).get true st.h r=some (vz b.seen n))) (cp 0 [.fe (xl.cells false b),aj.val false n]) (bg []):=by
 have hlen:=hl.len;unfold Tryz.f113;simp only [bz];simp only [↓wR,zT,simprocAttr,Wx];refine ct (T:=[]) (ar.nil PP) mixed Tryz.func107 rfl zK zK zK zK ?_;unfold Tryz.f107;simp only [↓wR,zT,simprocAttr];refine ct (T:=[]) (ar.nil PP) mixed Tryz.func145 rfl zK zK zK zK ?_;unfold Tryz.f145;simp only [↓wR,zT,simprocAttr];refine dq [0,1,7,8] (fun (k:Nat)=>[zv b.seen,.fn (.func 147) [] [.ptr 0 0],zi b.seen.length,zi k]) (fun _=>[some (.row [zn n] 0 2 23)]) (fun k=>k<=b.seen.length/\vz b.seen n=vz (b.seen.drop k) n) (fun k=>b.seen.length - k) 0 ⟨zzb _,rfl⟩ zS zS ?_;rintro k ⟨hk,hx⟩;simp only [↓wR,zT,simprocAttr];rw [bh];refine ⟨fun h3=>?_,fun h3=>?_⟩
 ·obtain ⟨c,hc2,dM,hlt2⟩:=du (zp h3);rw [dM,vz,vz,List.any_cons] at hx;have hcs:=hl.mem c (zm hc2)
  repeat (first|simp only [↓wR,zT,simprocAttr,h3,hc2]|simp (disch:=omega) only [zW])
  refine ct (T:=[eg]) (ar.cons (aq gy) (ar.nil PP)) mixed Tryz.func147 rfl zK zK zK zK ?_;unfold Tryz.f147;simp only [↓wR,zT,simprocAttr,j6,hcs,hn];rw [cw];refine ⟨fun h4=>?_,fun h4=>?_⟩
  ·rw [h4,Bool.true_or] at hx;simp only [↓wR,zT,simprocAttr,h4];rw [vz,hx]
  ·rw [h4,Bool.false_or] at hx
   repeat (first|simp only [↓wR,zT,simprocAttr,h4]|simp (disch:=omega) only [zW])
   exact ⟨k+1,⟨hlt2,hx⟩,zO,zF⟩
 ·rw [eu (zq h3)] at hx;simp only [↓wR,zT,simprocAttr,h3];rw [hx]<;>rfl
noncomputable def sk (x:H0 × Name × Unit):Option AV:=if j5 x.1.seen/\aw x.2.1 then some ((r1 bk).E true (vz x.1.seen x.2.1)) else none
theorem Mi (x:H0 × Name × Unit) (r:AV) (h:sk x=some r):bj PP 113 ((aP xl (aC aj a0)).E x) r:=by obtain ⟨hc,rfl⟩:=zI h;exact az (ar.cons (aq gy) (ar.nil PP)) Tryz.func113 zK zK zK zL (r1 bk) true (vz x.1.seen x.2.1) (aos x.1 x.2.1 hc.1 hc.2)
noncomputable abbrev Rl:zE:=(113,true,cx (aP xl (aC aj a0)) sk)
noncomputable def fy (z:ay) (t:UInt16):Nat->Name->List Name->List ba->mi
 |0,_,_,ans=>xr 0 true ans [] []
 |k+1,n,seen,ans=>
  let x:=qm z n t (iz z n).1
  if x.turn=0 then xr 0 true (ans++x.ak) [] (vt z (ans++x.ak) x.ak)
  else if x.turn=3 then xr 3 true ans [nl z] []
  else if x.turn=2 then xr 0 true ans [nl z] []
  else if x.turn=4 then xr 0 (decide (0<ans.length)) ans x.ak (vt z ans x.ak)
  else if dj x.to z.origin=false then xr 0 true (ans++x.ak) [] []
  else if vz (seen++[n]) x.to=true then xr 0 true (ans++x.ak) [] []
  else fy z t k x.to (seen++[n]) (ans++x.ak)
noncomputable def Ae (z:ay) (n:Name) (t:UInt16):mi × Int:=
 if (ti z n t).2≠0 then (xr 0 false [] [] [],(ti z n t).2) else (fy z t 16 n [] [],0)
theorem Im {l:List ba} {i:Nat} {c:ba} (hc:l[i]? = some c):dz (l.take (i+1))=dz (l.take i)++lr c:=by obtain ⟨hi,rfl⟩:=zg.1 hc;rw [zz5 hi,dz,List.flatMap_append];simp [dz]
theorem Lt {l:List cq} {i:Nat} {c:cq} (hc:l[i]? = some c):ib (l.take (i+1))=ib (l.take i)++c.names:=by obtain ⟨hi,rfl⟩:=zg.1 hc;rw [zz5 hi,ib,List.flatMap_append];simp [ib]
theorem Jx {α β:Type} (f : α->List β) (l:List α) (i:Nat):((l.take i).flatMap f).length<=(l.flatMap f).length:=by have:=congrArg (List.flatMap f) (zzm i l);rw [List.flatMap_append] at this;have:=congrArg List.length this;rw [za] at this;omega
theorem aAm {l:List ba} {i k:Nat} {c:ba} (hc:l[i]? = some c) (hy:pj c=true):(dz (l.take i)).length+(ib (c.data.take k)).length<=(dz l).length:=by have h1:(dz (l.take (i+1))).length<=(dz l).length:=Jx lr l (i+1);rw [Im hc,za,lr,if_pos hy] at h1;have h2:(ib (c.data.take k)).length<=(ib c.data).length:=Jx _ c.data k;omega
theorem asb {z:ay} (hz:bo z) {l:List Name}:∀ s ∈ vr z l,db s:=by
 have key:∀ (r pre:List Name),∀ s ∈ qn z pre r,db s:=by
  intro r
  induction r with
  |nil=>intro pre s hs;cases hs
  |cons n r ih=>
   intro pre s hs;rw [qn] at hs;rcases zzq.1 hs with h|h
   ·split at h
    ·cases h
    ·exact hz.set s (List.mem_filter.1 h).1
   ·exact ih _ s h
 exact key l []
set_option maxHeartbeats 4000000 in
theorem agn (z:ay) (hz:bo z) (he:fp z=0) (rc:Int) (aa:Bool) (au:AV) (aV:au.names=[]) (aU:∀ τ,au.de τ=au) (xS:au.one=true) (ans:List ba) (seen:List Name) (l:List ba)
 (xU:ans.length<=16777216) (hao:∀ s ∈ ans,aw s.owner) (cI:l.length<=16777216) (rG:∀ s ∈ l,s.data.length<=16777216) (bV:j5 (dz l)) :
 ky PP 112 [.ptr 0 0,.vl true 5 (l.map (ag.val true))] (bg [some (.row [zn z.origin,zs z.ak,.sc (.int .i64 rc),.sc (.bool aa),.sl 1 0 ans.length 5,au,.sc (.slice none 0 0),.sl 2 0 seen.length 1] 0 2 120),some (.row (cellsOf ag true (ans)) 0 0 63),some (.row (((seen)).map (aj.val false)) 0 0 23)])
  (fun r st'=>r = .iw []/\st'=bg [some (.row [zn z.origin,zs z.ak,.sc (.int .i64 rc),.sc (.bool aa),.sl 1 0 ans.length 5,au,.sl 3 0 (vt z ans l).length 5,.sl 2 0 seen.length 1] 0 2 120),some (.row (cellsOf ag true (ans)) 0 0 63),some (.row (((seen)).map (aj.val false)) 0 0 23),some (.row (cellsOf ag true (vt z ans l)) 0 0 63)]):=by
 have ok:ar PP [Y4,eg]:=ar.cons (aq Oa) (ar.cons (aq gy) (ar.nil PP));have hq:∀ a b c d,ft a b c=d->ft a b c=d:=fun _ _ _ _ h=>h
 refine en _ rfl ?_ (fun r st' h=>h);refine ct (T:=[Y4,eg]) ok mixed Tryz.func112 rfl zK zK zK zK ?_;unfold Tryz.f112;simp only [↓wR,zT,simprocAttr,aV,aU];refine fg [0,12,13,14,4] (fun (x:Nat × List Name)=>[.ptr 0 0,.vl true 5 (l.map (ag.val true)),zi l.length,zi x.1,.sl 3 0 x.2.length 1]) (fun x=>[some (.row [zn z.origin,zs z.ak,.sc (.int .i64 rc),.sc (.bool aa),.sl 1 0 ans.length 5,au,.sc (.slice none 0 0),.sl 2 0 seen.length 1] 0 2 120),some (.row (cellsOf ag true (ans)) 0 0 63),some (.row (((seen)).map (aj.val false)) 0 0 23),some (.row (x.2.map (aj.val true)) 0 0 23)]) (fun x=>x.1<=l.length/\x.2=dz (l.take x.1)) (fun x=>l.length - x.1) (0,[]) ⟨zzb _,rfl⟩ (by simp only [↓wR,zT,simprocAttr,aV,aU];(refine ir.lax [] (by first|exact zB rfl|(simp [dm];omega)) ?_ ?_<;>repeat' first|exact dx.nil|exact bw.nil|exact eh.same _|exact eh.nil _ _ _|exact eh.k8 _ _|exact bw.refl _ _|apply dx.cons|apply bw.ghost|apply bw.same|apply bw.row)) ?_;rintro ⟨i,x⟩ ⟨hi,hx⟩;simp only at hi hx;simp only [↓wR,zT,simprocAttr,aV,aU];rw [bh];refine ⟨fun h=>?_,fun h=>?_⟩
 ·obtain ⟨c,hc,aF,hlt⟩:=du (zp h);have xP:=rG c (zm hc);have hnl:=bV.len
  repeat (first|simp only [↓wR,zT,simprocAttr,h,hc]|simp (disch:=omega) only [zW])
  rw [dh];refine ⟨fun ⟨g1,e1⟩=>?n1,fun ⟨g1,e1⟩=>?y1⟩
  case' n1=>
   simp only [↓wR,zT,simprocAttr,g1];rw [dh];refine ⟨fun ⟨g2,e2⟩=>?n2,fun ⟨g2,e2⟩=>?y2⟩
  case' n2=>
   simp only [↓wR,zT,simprocAttr,g2];rw [dh];refine ⟨fun ⟨g3,e3⟩=>?n3,fun ⟨g3,e3⟩=>?y3⟩
  case n3=>
   have hy:pj c=false:=by unfold pj;rw [zq e1,zq e2,zq e3];rfl
   repeat (first|simp only [↓wR,zT,simprocAttr,g3,aV,aU]|simp (disch:=omega) only [zW])
   exact ⟨(i+1,x),⟨hlt,by rw [Im hc,lr,hy,if_neg (by decide),zzn];exact hx⟩,by simp;omega,zF⟩
  case' y1=>
   have hy:pj c=true:=by unfold pj;rw [zp e1];rfl
   simp only [↓wR,zT,simprocAttr,g1]
  case' y2=>
   have hy:pj c=true:=by unfold pj;rw [zp e2,Bool.true_or,Bool.or_true]
   simp only [↓wR,zT,simprocAttr,g2]
  case' y3=>
   have hy:pj c=true:=by unfold pj;rw [zp e3,Bool.or_true,Bool.or_true]
   simp only [↓wR,zT,simprocAttr,g3]
  all_goals
   refine fg [0,12,13,14,32,33,34,4] (fun (y:Nat × List Name)=>[.ptr 0 0,.vl true 5 (l.map (ag.val true)),zi l.length,zi i,.vl true 4 (c.data.map (bc.val true)),zi c.data.length,zi y.1,.sl 3 0 y.2.length 1]) (fun y=>[some (.row [zn z.origin,zs z.ak,.sc (.int .i64 rc),.sc (.bool aa),.sl 1 0 ans.length 5,au,.sc (.slice none 0 0),.sl 2 0 seen.length 1] 0 2 120),some (.row (cellsOf ag true (ans)) 0 0 63),some (.row (((seen)).map (aj.val false)) 0 0 23),some (.row (y.2.map (aj.val true)) 0 0 23)]) (fun y=>y.1<=c.data.length/\y.2=x++ib (c.data.take y.1)) (fun y=>c.data.length - y.1) (0,x) ⟨zzb _,by simp [ib]⟩ (by simp only [↓wR,zT,simprocAttr,aV,aU];(refine ir.lax [] (by first|exact zB rfl|(simp [dm];omega)) ?_ ?_<;>repeat' first|exact dx.nil|exact bw.nil|exact eh.same _|exact eh.nil _ _ _|exact eh.k8 _ _|exact bw.refl _ _|apply dx.cons|apply bw.ghost|apply bw.same|apply bw.row)) ?_;rintro ⟨k,y⟩ ⟨hk,gV⟩;simp only at hk gV;simp only [↓wR,zT,simprocAttr,aV,aU];rw [bh];refine ⟨fun h2=>?_,fun h2=>?_⟩
   ·obtain ⟨d,hd,aF,hlt2⟩:=du (zp h2);have hle:=aAm (k:=k+1) hc hy;rw [<- hx,Lt hd,za] at hle;have jO:y.length=x.length+(ib (c.data.take k)).length:=by rw [gV,za]
    have aD:(y.length+d.names.length) * 24<=140737488355328:=zO
    repeat (first|simp only [↓wR,zT,simprocAttr,h2,hd,aD,aV,aU]|simp (disch:=omega) only [zW])
    exact ⟨(k+1,y++d.names),⟨hlt2,by rw [gV,Lt hd,zzc]⟩,by simp;omega,zF,zF⟩
   ·have wW:k=c.data.length:=zO;subst wW;rw [zz7] at gV
    repeat (first|simp only [↓wR,zT,simprocAttr,h2,aV,aU]|simp (disch:=omega) only [zW])
    exact ⟨(i+1,y),⟨hlt,by rw [Im hc,lr,if_pos hy,<- hx];exact gV⟩,by simp;omega,zF⟩
 have bX:i=l.length:=zO;subst bX;rw [zz7] at hx;subst hx;have hnl:=bV.len;have hzl:=H5 he;obtain ⟨A,hA⟩:∃ A,A=vr z (dz l):=⟨_,rfl⟩;have bM:A.length<=16777216 * 2048:=by rw [hA];exact zzu (F7 z (dz l) []) (Nat.mul_le_mul hnl hzl)
 have yD:∀ s ∈ A,db s:=fun s hs=>by rw [hA] at hs;exact asb hz s hs
 have hadd:vt z ans l=A.filter fun s=>!ow ans s:=by rw [hA];rfl
 rw [hadd];have xE:AV.fresh.go (A.map (ag.val true))=true:=acu (cg ag) A
 repeat (first|simp only [↓wR,zT,simprocAttr,h,Ml,hz,he,bV,aV,aU,<- hA,xE]|simp (disch:=omega) only [zW])
 clear h hi;refine fg [0,49,50,51] (fun (x:Nat × List ba)=>[.ptr 0 0,.vl true 5 (A.map (ag.val true)),zi A.length,zi x.1]) (fun x=>[some (.row [zn z.origin,zs z.ak,.sc (.int .i64 rc),.sc (.bool aa),.sl 1 0 ans.length 5,au,.sl 3 0 x.2.length 5,.sl 2 0 seen.length 1] 0 2 120),some (.row (cellsOf ag true (ans)) 0 0 63),some (.row (((seen)).map (aj.val false)) 0 0 23),some (.row (cellsOf ag true (x.2)) 0 0 63)]) (fun x=>x.1<=A.length/\x.2=(A.take x.1).filter fun s=>!ow ans s) (fun x=>A.length - x.1) (0,[]) ⟨zzb _,rfl⟩ (by simp only [↓wR,zT,simprocAttr,aV,aU];(refine ir.lax [] (by first|exact zB rfl|(simp [dm];omega)) ?_ ?_<;>repeat' first|exact dx.nil|exact bw.nil|exact eh.same _|exact eh.nil _ _ _|exact eh.k8 _ _|exact bw.refl _ _|apply dx.cons|apply bw.ghost|apply bw.same|apply bw.row)) ?_;rintro ⟨i,y⟩ ⟨hi,hy⟩;simp only at hi hy;have jO:y.length<=A.length:=by rw [hy];exact zzu (List.length_filter_le _ _) (by rw [zzl];omega)
 simp only [↓wR,zT,simprocAttr,aV,aU];rw [bh];refine ⟨fun h=>?_,fun h=>?_⟩
 ·obtain ⟨c,hc,aF,hlt⟩:=du (zp h);have hcs:=yD c (zm hc);have aD:(y.length * 5+5) * 64<=140737488355328:=zO;have oP:(A.take (i+1)).filter (fun s=>!ow ans s)=(A.take i).filter (fun s=>!ow ans s)++if ow ans c=true then [] else [c]:=by
   obtain ⟨hi',rfl⟩:=zg.1 hc;rw [zz5 hi',List.filter_append,List.filter_cons];cases ow ans A[i]<;>rfl
  repeat (first|simp only [↓wR,zT,simprocAttr,h,hc,aV,aU]|simp (disch:=omega) only [zW])
  refine en (fun r st'=>r = .sc (.bool (ow ans c))/\st'=bg [some (.row [zn z.origin,zs z.ak,.sc (.int .i64 rc),.sc (.bool aa),.sl 1 0 ans.length 5,au,.sl 3 0 y.length 5,.sl 2 0 seen.length 1] 0 2 120),some (.row (cellsOf ag true (ans)) 0 0 63),some (.row (((seen)).map (aj.val false)) 0 0 23),some (.row (cellsOf ag true (y)) 0 0 63),some (.row [zt c.owner,.sc (.int .u16 c.type.toNat),.sc (.int .u16 c.cls.toNat),.sc (.int .u32 c.i9.toNat),.vl true 4 (c.data.map (bc.val true))] 0 2 63)]) rfl ?_ ?_
  ·refine ct (T:=[]) (ar.nil PP) mixed Tryz.func82 rfl zK zK zK zK ?_;unfold Tryz.f82;simp only [↓wR,zT,simprocAttr,aV,aU];refine ct (T:=[]) (ar.nil PP) mixed Tryz.func132 rfl zK zK zK zK ?_;unfold Tryz.f132;simp only [↓wR,zT,simprocAttr,aV,aU];refine dq [0,1,7,8] (fun (k:Nat)=>[.sl 1 0 ans.length 5,.fn (.func 146) [] [.ptr 4 0],zi ans.length,zi k]) (fun _=>[some (.row [zn z.origin,zs z.ak,.sc (.int .i64 rc),.sc (.bool aa),.sl 1 0 ans.length 5,au,.sl 3 0 y.length 5,.sl 2 0 seen.length 1] 0 2 120),some (.row (cellsOf ag true (ans)) 0 0 63),some (.row (((seen)).map (aj.val false)) 0 0 23),some (.row (cellsOf ag true (y)) 0 0 63),some (.row [zt c.owner,.sc (.int .u16 c.type.toNat),.sc (.int .u16 c.cls.toNat),.sc (.int .u32 c.i9.toNat),.vl true 4 (c.data.map (bc.val true))] 0 2 63)]) (fun k=>k<=ans.length/\ow ans c=ow (ans.drop k) c) (fun k=>ans.length - k) 0 ⟨zzb _,rfl⟩ (by simp only [↓wR,zT,simprocAttr,aV,aU]<;>rfl) (by simp only [↓wR,zT,simprocAttr,aV,aU]<;>rfl) ?_;rintro k ⟨hk,hx⟩;simp only [↓wR,zT,simprocAttr,aV,aU];rw [bh];refine ⟨fun h3=>?_,fun h3=>?_⟩
   ·obtain ⟨q,hq,dM,hlt2⟩:=du (zp h3);rw [dM] at hx;have hx':ow ans c=((decide ((q.type.toNat:Int)=c.type.toNat) && dt q.owner c.owner) || ow (ans.drop (k+1)) c):=hx;have wI:=hao q (zm hq);have hdr:(cellsOf ag true ans).drop (k * 5)=[zt q.owner,.sc (.int .u16 q.type.toNat),.sc (.int .u16 q.cls.toNat),.sc (.int .u32 q.i9.toNat),.vl true 4 (q.data.map (bc.val true))]++cellsOf ag true (ans.drop (k+1)):=
     (Ih ag true ans k).trans (by rw [dM,qu];rfl)
    repeat (first|simp only [↓wR,zT,simprocAttr,h3,hq,hdr,aV,aU]|simp (disch:=omega) only [zW])
    refine ct (T:=[eg]) (ar.cons (aq gy) (ar.nil PP)) mixed Tryz.func146 rfl zK zK zK zK ?_;unfold Tryz.f146;simp only [↓wR,zT,simprocAttr,aV,aU];rw [cf];refine ⟨fun ⟨h4,e4⟩=>?_,fun ⟨h4,e4⟩=>?_⟩
    ·simp only [↓wR,zT,simprocAttr,h4,j6,wI,hcs.owner,aV,aU];rw [cw];refine ⟨fun h5=>?_,fun h5=>?_⟩
     ·rw [zp e4,h5,Bool.true_and,Bool.true_or] at hx';simp only [↓wR,zT,simprocAttr,h5,aV,aU,jx,jo,ja,hx']
     ·rw [h5,Bool.and_false,Bool.false_or] at hx'
      repeat (first|simp only [↓wR,zT,simprocAttr,h5,aV,aU]|simp (disch:=omega) only [zW])
      exact ⟨k+1,⟨hlt2,hx'⟩,zO,zF⟩
    ·rw [zq e4,Bool.false_and,Bool.false_or] at hx'
     repeat (first|simp only [↓wR,zT,simprocAttr,h4,aV,aU]|simp (disch:=omega) only [zW])
     exact ⟨k+1,⟨hlt2,hx'⟩,zO,zF⟩
   ·rw [eu (zq h3)] at hx;have hx':ow ans c=false:=hx;simp only [↓wR,zT,simprocAttr,h3,jx,jo,ja,aV,aU,hx']
  rintro _ _ ⟨rfl,rfl⟩;simp only [↓wR,zT,simprocAttr,gq];rw [cw];refine ⟨fun h2=>?_,fun h2=>?_⟩
  ·have h2':ow ans c=false:=by simpa only [zyd] using h2
   rw [h2',if_neg (by decide),<- hy] at oP
   repeat (first|simp only [↓wR,zT,simprocAttr,h2,aD,aV,aU]|simp (disch:=omega) only [zW])
   refine ⟨zK,.inl ?_⟩;refine ⟨by apply hq;kernel_rfl,⟨(i+1,y++[c]),⟨hlt,oP.symm⟩,by simp;omega,zF,?_⟩⟩;rw [kr,za,zyg]
  ·have h2':ow ans c=true:=by simpa only [zyh] using h2
   rw [h2',if_pos rfl,zzn,<- hy] at oP
   repeat (first|simp only [↓wR,zT,simprocAttr,aV,aU]|simp (disch:=omega) only [zW])
   exact ⟨(i+1,y),⟨hlt,oP.symm⟩,by simp;omega,zF,zF⟩
 ·have bX:i=A.length:=zO;subst bX;rw [zz7] at hy;subst hy;simp only [↓wR,zT,simprocAttr,h,jx,jo,ja,aV,aU]
end Go.Proofs.YtjagjbceegbaiaaGreat
end
section
namespace Go.Proofs.YtjagjbceegbaiaaGreat
open Go.Vm
theorem at_mem {z:ay} {n:Name} {s:ba} (h:s ∈ fl z n):s ∈ z.ak/\dt s.owner n=true:=List.mem_filter.1 h
theorem ahf {l:List Name} (h:kx l=0):∀ n ∈ l,dk n=0:=by
 induction l with
 |nil=>intro n hn;cases hn
 |cons a l ih=>
  intro n hn;rw [kx] at h
  split at h
  ·contradiction
  ·rename_i q;rcases zya.1 hn with rfl|hn
   ·omega
   ·exact ih h n hn
theorem afw {t:UInt16} {d:cq} (h:ek t d=0):∀ n ∈ d.names,dk n=0:=by
 unfold ek at h
 split at h
 ·cases h
 split at h
 ·cases h
 split at h
 ·contradiction
 ·rename_i q;exact ahf zO
theorem au4 {z:ay} (h:fp z=0) {y:ba} (hy:y ∈ z.ak) (ht:(y.type.toNat:Int)=5):∃ d m,y.data=[d]/\d.names=[m]/\dk m=0:=by
 have hg:=Co h;obtain ⟨k,hk,rfl⟩:=List.getElem_of_mem hy;have ha:=hg.alone k _ (zh hk);unfold kb at ha;rw [if_neg zO] at ha
 split at ha
 ·cases ha
 rename_i hl;have he:=ze h _ hy;have hall:=M4 he;cases hd:(z.ak[k]).data with
 |nil=>rw [hd] at hl;simp at hl
 |cons d r=>
  have hr:r=[]:=by rw [hd] at hl;simp only [List.length_cons] at hl;exact zzf zO
  subst hr;have lC:ek (z.ak[k]).type d=0:=hall d (by rw [hd];simp);have hn:=(G5 lC).1;have h2:(c8 (z.ak[k]).type).names=1:=by unfold c8;rw [ht];rfl
  rw [h2] at hn;cases hm:d.names with
  |nil=>rw [hm] at hn;simp at hn
  |cons m r2=>
   have:r2=[]:=by rw [hm] at hn;simp only [List.length_cons] at hn;exact zzf zO
   subst this;exact ⟨d,m,rfl,hm,afw lC m (by rw [hm];simp)⟩
theorem Sz {α:Type} (f : α->Nat) (a b:List α):gu f (a++b)=gu f a+gu f b:=by
 induction a with
 |nil=>simp [gu]
 |cons x a ih=>simp only [gu,List.cons_append,List.foldr_cons] at ih ⊢;omega
theorem W8 {α:Type} (f : α->Nat) (p : α->Bool) (l:List α):gu f (l.filter p)<=gu f l:=by
 induction l with
 |nil=>exact zza _
 |cons x l ih=>
  rw [List.filter_cons]
  split
  ·simp only [gu,List.foldr_cons] at ih ⊢;omega
  ·simp only [gu,List.foldr_cons] at ih ⊢;omega
theorem amh (l:List cq):gu cd (ib l)<=gu Ce l:=by
 induction l with
 |nil=>exact zza _
 |cons d l ih=>
  have h:ib (d::l)=d.names++ib l:=by simp [ib]
  rw [h,Sz];have h2:gu cd d.names<=Ce d:=by unfold Ce;omega
  simp only [gu,List.foldr_cons] at ih h2 ⊢;omega
theorem aoz (s:ba):gu cd (lr s)<=n9 s:=by
 unfold lr
 split
 ·have:=amh s.data;unfold n9;omega
 ·exact zzb _
theorem G9 (l:List ba):gu cd (dz l)<=gu n9 l:=by
 induction l with
 |nil=>exact zza _
 |cons s l ih=>
  have h:dz (s::l)=lr s++dz l:=by simp [dz]
  rw [h,Sz];have h2:=aoz s;simp only [gu,List.foldr_cons] at ih h2 ⊢;omega
theorem amz (n:Name) (l:List ba):dz (l.map (nb n))=dz l:=by
 induction l with
 |nil=>rfl
 |cons s l ih=>
  have h:∀ (s:ba) l,dz (s::l)=lr s++dz l:=fun s l=>by simp [dz]
  rw [List.map_cons,h,h,ih];rfl
theorem Kv {l:List ba} {x:ba} (h:x ∈ l):gu cd (dz [x])<=gu cd (dz l):=by
 induction l with
 |nil=>cases h
 |cons s l ih=>
  have hc:∀ (s:ba) l,dz (s::l)=lr s++dz l:=fun s l=>by simp [dz]
  rw [hc s l,Sz];rcases zya.1 h with rfl|h
  ·rw [hc,Sz];show _+gu cd (dz [])<=_;have:gu cd (dz [])=0:=rfl;omega
  ·have:=ih h;omega
inductive awr (z:ay) (n:Name) (t:UInt16):Prop
 |aIh (c:Name) (s:ba) (hc:k7 z n=some c) (hs:s ∈ z.ak) (ht:(s.type.toNat:Int)=2) (ho:dt s.owner c=true) (h:qm z n t (iz z n).1=pd 4 [s] [])
 |aFz (hc:k7 z n=none) (h:qm z n t (iz z n).1=pd 3 [] [])
 |aw1 (hc:k7 z n=none) (h:qm z n t (iz z n).1=pd 2 [] [])
 |found (hc:k7 z n=none) (l:List ba) (hne:l≠[]) (bD:l.length<=z.ak.length) (hw:gu cd (dz l)<=gu n9 z.ak) (hl:∀ s ∈ l,dt s.owner n=true/\(s.owner=n\/s ∈ z.ak)/\((t.toNat:Int)=255\/(s.type.toNat:Int)=t.toNat)/\∃ y ∈ z.ak,s.data=y.data/\s.type=y.type) (h:qm z n t (iz z n).1=pd 0 l [])
 |alias (hc:k7 z n=none) (s:ba) (d:cq) (m:Name) (ht:(s.type.toNat:Int)=5) (h5:(t.toNat:Int)≠5) (kP:(t.toNat:Int)≠255) (ho:dt s.owner n=true) (kX:s.owner=n\/s ∈ z.ak) (hd:s.data=[d]) (hm:d.names=[m]) (he:dk m=0) (hy:∃ y ∈ z.ak,s.data=y.data/\s.type=y.type) (h:qm z n t (iz z n).1=pd 1 [s] m)
theorem aDv {z:ay} {n c:Name}:∀ (l:List ba) (b:Option Name),(∀ s ∈ l,s ∈ z.ak)->(∀ m,b=some m->∃ s ∈ z.ak,(s.type.toNat:Int)=2/\s.owner=m)->l.foldl (kq z n) b=some c->∃ s ∈ z.ak,(s.type.toNat:Int)=2/\s.owner=c:=by
 intro l
 induction l with
 |nil=>intro b _ h hc;exact h c hc
 |cons s l ih=>
  intro b hl h hc;refine ih _ (fun x hx=>hl x (by simp [hx])) (fun m hm=>?_) hc;unfold kq at hm
  split at hm
  ·rename_i hq;cases hm;simp only [zzh,decide_eq_true_eq] at hq;exact ⟨s,hl s (by simp),hq.1,rfl⟩
  ·exact h m hm
theorem aps {z:ay} {n:Name} {t:UInt16} (h:fp z=0) (hc:k7 z n=none) (L:List ba) (bD:L.length<=z.ak.length) (hw:gu cd (dz L)<=gu n9 z.ak) (hL:∀ s ∈ L,dt s.owner n=true/\(s.owner=n\/s ∈ z.ak)/\∃ y ∈ z.ak,s.data=y.data/\s.type=y.type) (hs:qm z n t (iz z n).1=S4 t L):awr z n t:=by
 unfold S4 at hs
 split at hs
 ·rename_i q;exact .found hc L (fun e=>by rw [e] at q;simp at q) bD hw (fun s hs=>⟨(hL s hs).1,(hL s hs).2.1,.inl q.1,(hL s hs).2.2⟩) hs
 rename_i q
 split at hs
 ·rename_i x hx;have h1:=List.mem_of_find?_eq_some hx;have h2:=List.find?_some hx;exact .found hc [x] (by simp) (by have:=List.length_pos_of_mem h1;rw [zyg];omega) (zzu (Kv h1) hw) (fun s hs=>by rw [zz0] at hs;subst hs;exact ⟨(hL s h1).1,(hL s h1).2.1,.inr (by simpa using h2),(hL s h1).2.2⟩) hs
 ·rename_i hx
  split at hs
  ·rename_i x hx2;have h1:=List.mem_of_find?_eq_some hx2;have h2:=List.find?_some hx2;simp only [zzh,decide_eq_true_eq] at h2;obtain ⟨y,hy,eO,iJ⟩:=(hL x h1).2.2;obtain ⟨d,m,e1,e2,e3⟩:=au4 h hy (by rw [<- iJ];exact h2.1);rw [<- eO] at e1;have h5:(t.toNat:Int)≠5:=fun e=>by
    have:=List.find?_eq_none.1 hx x h1;simp [h2.1,e] at this
   refine .alias hc x d m h2.1 h5 h2.2 (hL x h1).1 (hL x h1).2.1 e1 e2 e3 ⟨y,hy,eO,iJ⟩ ?_;rw [hs,e1];simp [e2]
  ·exact .aw1 hc hs
theorem aa0 {z:ay} {n:Name} (t:UInt16) (h:ef z n=0):awr z n t:=by
 obtain ⟨a1,a2,a3⟩:=rz h;have hg:=Co a1;rcases aau h with ⟨c,hc,e⟩|⟨hc,hp,hh,e⟩|⟨hc,hp,hh,e⟩|⟨hc,hp,hh,hs,e⟩|⟨hc,hp,hh,hs,e⟩
 ·obtain ⟨s,hs,ht,ho⟩:=aDv z.ak none (fun _ h=>h) (fun m hm=>by cases hm) hc;have hcl:=(ah7 (hg.cls s hs)).1;cases hf:tn z.ak c 2 with
  |none=>
   have:=List.find?_eq_none.1 hf s hs;have hp:vq c 2 s=true:=by unfold vq;rw [zp (show (s.type.toNat:Int)=(2:UInt16).toNat from ht),zp hcl,ho,aet];rfl
   exact (this hp).elim
  |some x=>
   obtain ⟨m1,m2,m3,m4⟩:=G4 hf;exact .aIh c x hc m1 m2 m4 (by rw [e];show pd 4 [(tn z.ak c 2).getD Vy] []=_;rw [hf];rfl)
 ·refine aps a1 hc (fl z n) (n5 _) (zzu (G9 _) (W8 _ _ _)) (fun s hs=>⟨(at_mem hs).2,.inr (at_mem hs).1,s,(at_mem hs).1,rfl,rfl⟩) ?_;rw [e];rfl
 ·exact .aw1 hc (by rw [e];rfl)
 ·refine aps a1 hc ((fl z (pz::ec z n)).map (nb n)) (by rw [zzo];exact n5 _) (by rw [amz];exact zzu (G9 _) (W8 _ _ _)) (fun s hs=>?_) ?_
  ·obtain ⟨y,hy,rfl⟩:=zyj.1 hs;exact ⟨aet n,.inl rfl,y,(at_mem hy).1,rfl,rfl⟩
  ·rw [e];rfl
 ·exact .aFz hc (by rw [e];rfl)
theorem Qo {z:ay} {t:UInt16} {n m:Name} {s:ba} {k:Nat} {seen:List Name} {ans:List ba} (e:qm z n t (iz z n).1=pd 1 [s] m) (hu:dj m z.origin=false):fy z t (k+1) n seen ans=xr 0 true (ans++[s]) [] []:=by
 have t0:∀ q:Int,q≠1->¬ (pd 1 [s] m).turn=q:=fun q hk e=>hk e.symm
 simp only [fy,e];rw [if_neg (t0 0 (by decide)),if_neg (t0 3 (by decide)),if_neg (t0 2 (by decide)),if_neg (t0 4 (by decide))];rw [if_pos (show dj (pd 1 [s] m).to z.origin=false from hu)];rfl
theorem Qn {z:ay} {t:UInt16} {n m:Name} {s:ba} {k:Nat} {seen:List Name} {ans:List ba} (e:qm z n t (iz z n).1=pd 1 [s] m) (hu:dj m z.origin=true) (bB:vz (seen++[n]) m=true):fy z t (k+1) n seen ans=xr 0 true (ans++[s]) [] []:=by
 have t0:∀ q:Int,q≠1->¬ (pd 1 [s] m).turn=q:=fun q hk e=>hk e.symm
 simp only [fy,e];rw [if_neg (t0 0 (by decide)),if_neg (t0 3 (by decide)),if_neg (t0 2 (by decide)),if_neg (t0 4 (by decide))];rw [if_neg (show ¬ dj (pd 1 [s] m).to z.origin=false from by rw [show (pd 1 [s] m).to=m from rfl,hu];decide),if_pos (show vz (seen++[n]) (pd 1 [s] m).to=true from bB)];rfl
theorem V2 {z:ay} {t:UInt16} {n m:Name} {s:ba} {k:Nat} {seen:List Name} {ans:List ba} (e:qm z n t (iz z n).1=pd 1 [s] m) (hu:dj m z.origin=true) (bB:vz (seen++[n]) m=false):fy z t (k+1) n seen ans=fy z t k m (seen++[n]) (ans++[s]):=by
 have t0:∀ q:Int,q≠1->¬ (pd 1 [s] m).turn=q:=fun q hk e=>hk e.symm
 simp only [fy,e];rw [if_neg (t0 0 (by decide)),if_neg (t0 3 (by decide)),if_neg (t0 2 (by decide)),if_neg (t0 4 (by decide))];rw [if_neg (show ¬ dj (pd 1 [s] m).to z.origin=false from by rw [show (pd 1 [s] m).to=m from rfl,hu];decide),if_neg (show ¬ vz (seen++[n]) (pd 1 [s] m).to=true from by rw [show (pd 1 [s] m).to=m from rfl,bB];decide)];rfl
end Go.Proofs.YtjagjbceegbaiaaGreat
end
section
namespace Go.Proofs.YtjagjbceegbaiaaGreat
open Go.Vm
def wtW (w:al9):Nat:=gu Mk w.aub+(gu (fun h:aCv=>h.aub.length) w.aIm+w.hints.length)
def aGj (w:al9):Prop:=wtW w<=5242880
instance (w:al9):Decidable (aGj w):=inferInstanceAs (Decidable (_<=_))
theorem alc (l:Name) (hl:l.length<=16777216):wl PP [] 0 (Tryz.f74.body.getD .skip) (c9 PP Tryz.f74.results.toList (fun r st=>(r1 aj).get true st.h r=some l)) (cp 0 [aj.val false l]) (bg []):=by have aD:l.length * 16<=140737488355328:=zO;unfold Tryz.f74;simp only [bz];simp only [↓wR,zT,simprocAttr,aD]
noncomputable def Aj (x:Name × Unit):Option AV:=if x.1.length<=16777216 then some ((r1 aj).E true (x.1)) else none
theorem Mo (x:Name × Unit) (r:AV) (h:Aj x=some r):bj PP 74 ((aC aj a0).E x) r:=by obtain ⟨hc,rfl⟩:=zI h;exact az (ar.nil PP) Tryz.func74 zK zK zK zL (r1 aj) true (x.1) (alc x.1 hc)
noncomputable abbrev aee:zE:=(74,true,cx (aC aj a0) Aj)
theorem an7 (l:Name) (hl:l.length<=16777216):wl PP [aee] 0 (Tryz.f38.body.getD .skip) (c9 PP Tryz.f38.results.toList (fun r st=>(r1 aj).get true st.h r=some l)) (cp 0 [aj.val false l]) (bg []):=by unfold Tryz.f38;simp only [bz];simp only [↓wR,zT,simprocAttr,Aj,hl]
noncomputable def lz (x:Name × Unit):Option AV:=if x.1.length<=16777216 then some ((r1 aj).E true (x.1)) else none
theorem pv (x:Name × Unit) (r:AV) (h:lz x=some r):bj PP 38 ((aC aj a0).E x) r:=by obtain ⟨hc,rfl⟩:=zI h;exact az (ar.cons (aq Mo) (ar.nil PP)) Tryz.func38 zK zK zK zL (r1 aj) true (x.1) (an7 x.1 hc)
noncomputable abbrev Ad:zE:=(38,true,cx (aC aj a0) lz)
theorem ah6 (l:List UInt8) (hl:l.length<=16777216):wl PP [] 0 (Tryz.f148.body.getD .skip) (c9 PP Tryz.f148.results.toList (fun r st=>(r1 (cg ca)).get true st.h r=some l)) (cp 0 [(cg ca).val false l]) (bg []):=by have aD:l.length<=140737488355328:=zO;unfold Tryz.f148;simp only [l5];simp only [↓wR,zT,simprocAttr,aD]
noncomputable def C1 (x:List UInt8 × Unit):Option AV:=if x.1.length<=16777216 then some ((r1 (cg ca)).E true (x.1)) else none
theorem abr (x:List UInt8 × Unit) (r:AV) (h:C1 x=some r):bj PP 148 ((aC (cg ca) a0).E x) r:=by obtain ⟨hc,rfl⟩:=zI h;exact az (ar.nil PP) Tryz.func148 zK zK zK zL (r1 (cg ca)) true (x.1) (ah6 x.1 hc)
noncomputable abbrev auz:zE:=(148,true,cx (aC (cg ca) a0) C1)
theorem amt (d:cq) (hd:da d):wl PP [aee,Ad,auz] 0 (Tryz.f116.body.getD .skip) (c9 PP Tryz.f116.results.toList (fun r st=>(r1 bc).get true st.h r=some d)) (cp 0 [bc.val false d]) (bg []):=by
 have iU:=hd.lens;have hq:∀ a b c d,ft a b c=d->ft a b c=d:=fun _ _ _ _ h=>h
 unfold Tryz.f116;simp only [iy];have hnl:=iU.1;have aD:d.nums.length * 4<=140737488355328:=zO;simp only [↓wR,zT,simprocAttr];refine ⟨zK,.inl ?_⟩;simp only [↓wR,zT,simprocAttr,aD,Aj,C1,iU.2.2.1,iU.2.2.2];refine ⟨by apply hq;kernel_rfl,?_⟩;refine fg [1,2,4,3] (fun (x:List Name)=>[.ptr 0 0,.ptr 1 0,zi x.length,.ptr 2 0]) (fun x=>[some (.row [zv d.names,zu d.nums,zn d.texts,zw d.raw] 0 2 116),some (.row [.sc (.slice none 0 0),.sc (.slice none 0 0),.sc (.slice none 0 0),.sc (.slice none 0 0)] 0 2 116),some (.row [.sl 3 0 x.length 1,.vl true 1 (d.nums.map (cz.val true)),.vl true 1 (d.texts.map (ai.val true)),.vl true 1 (d.raw.map (ca.val true))] 0 2 116),some (.row (x.map (aj.val true)) 0 0 23)]) (fun x=>x.length<=d.names.length/\x++d.names.drop x.length=d.names) (fun x=>d.names.length - x.length) [] ⟨zzb _,rfl⟩ (by
  simp only [↓wR,zT,simprocAttr];refine .trans (vs':=[.ptr 0 0,.ptr 1 0,zi 0,.ptr 2 0]) (os':=[some (.row [zv d.names,zu d.nums,zn d.texts,zw d.raw] 0 2 116),some (.row [.sc (.slice none 0 0),.sc (.slice none 0 0),.sc (.slice none 0 0),.sc (.slice none 0 0)] 0 2 116),some (.row [.sc (.slice none 0 0),.vl true 1 (d.nums.map (cz.val true)),.vl true 1 (d.texts.map (ai.val true)),.vl true 1 (d.raw.map (ca.val true))] 0 2 116),none]) (ir.lax [3] (zB rfl) (dx.refl _ _) (.same (.same (.row (.cons (.same _) (.cons (.data (cg cz) true d.nums _ ?_) (.cons (.same _) (.cons (.same _) .nil)))) (bw.refl _ _))))) (.trans (vs':=[.ptr 0 0,.ptr 1 0,zi 0,.ptr 2 0]) (os':=[some (.row [zv d.names,zu d.nums,zn d.texts,zw d.raw] 0 2 116),some (.row [.sc (.slice none 0 0),.sc (.slice none 0 0),.sc (.slice none 0 0),.sc (.slice none 0 0)] 0 2 116),some (.row [.sc (.slice none 0 0),.vl true 1 (d.nums.map (cz.val true)),.vl true 1 (d.texts.map (ai.val true)),.vl true 1 (d.raw.map (ca.val true))] 0 2 116)]) (ir.aii (by decide) ?_ ?_) (by (refine ir.lax [] (by first|exact zB rfl|(simp [dm];omega)) ?_ ?_<;>repeat' first|exact dx.nil|exact bw.nil|exact eh.same _|exact eh.nil _ _ _|exact eh.k8 _ _|exact bw.refl _ _|apply dx.cons|apply bw.ghost|apply bw.same|apply bw.row)))<;>simp only [↓wR,zT,simprocAttr,xg,Bj,Br,te]) ?_
 rintro x ⟨hi,hx⟩;simp only [↓wR,zT,simprocAttr];rw [bh];refine ⟨fun h=>?_,fun h=>?_⟩
 ·obtain ⟨c,hc,aF,hlt⟩:=du (zp h);rw [aF] at hx;have bQ:(x.length+1) * 24<=140737488355328:=zO;have hcl:c.length<=16777216:=by have:=(hd.name c (zm hc));have:=(ju c 0).2;unfold aw at *;omega
  simp only [↓wR,zT,simprocAttr,h];refine ⟨zK,.inl ?_⟩
  repeat (first|simp only [↓wR,zT,simprocAttr,hc,lz,hcl,bQ]|simp (disch:=omega) only [zW])
  exact ⟨by apply hq;kernel_rfl,x++[c],⟨by simp;omega,by simpa using hx⟩,by simp;omega,zF,zF⟩
 ·rw [eu (zq h),zzn] at hx;subst hx;simp only [↓wR,zT,simprocAttr,h]
noncomputable def B2 (x:cq × Unit):Option AV:=if da x.1 then some ((r1 bc).E true (x.1)) else none
theorem afk (x:cq × Unit) (r:AV) (h:B2 x=some r):bj PP 116 ((aC bc a0).E x) r:=by obtain ⟨hc,rfl⟩:=zI h;exact az (ar.cons (aq Mo) (ar.cons (aq pv) (ar.cons (aq abr) (ar.nil PP)))) Tryz.func116 zK zK zK zL (r1 bc) true (x.1) (amt x.1 hc)
noncomputable abbrev aAw:zE:=(116,true,cx (aC bc a0) B2)
theorem ml {n:Name} (h:aw n):n.length<=16777216:=by have:=(ju n 0).2;unfold aw at h;omega
theorem at6 (s:ba) (hs:db s):wl PP [Ad,aAw] 0 (Tryz.f75.body.getD .skip) (c9 PP Tryz.f75.results.toList (fun r st=>(r1 ag).get true st.h r=some s)) (cp 0 [ag.val false s]) (bg []):=by
 have dT:=ml hs.owner;have hd:=hs.data;have hn:=hd.len;have hq:∀ a b c d,ft a b c=d->ft a b c=d:=fun _ _ _ _ h=>h
 unfold Tryz.f75;simp only [jz];simp only [↓wR,zT,simprocAttr];refine ⟨zK,.inl ?_⟩;simp only [↓wR,zT,simprocAttr,lz,dT];refine ⟨by apply hq;kernel_rfl,?_⟩;refine fg [1,2,4,3] (fun (x:List cq)=>[.ptr 0 0,.ptr 1 0,zi x.length,.ptr 2 0]) (fun x=>[(zY s),some (.row [.sc (.slice none 0 0),.sc (.int .u16 0),.sc (.int .u16 0),.sc (.int .u32 0),.sc (.slice none 0 0)] 0 2 63),some (.row [aj.val true s.owner,.sc (.int .u16 s.type.toNat),.sc (.int .u16 s.cls.toNat),.sc (.int .u32 s.i9.toNat),.sl 3 0 x.length 4] 0 2 63),some (.row (cellsOf bc true x) 0 0 116)]) (fun x=>x.length<=s.data.length/\x++s.data.drop x.length=s.data) (fun x=>s.data.length - x.length) [] ⟨zzb _,rfl⟩ zX ?_;rintro x ⟨hi,hx⟩;simp only [↓wR,zT,simprocAttr];rw [bh];refine ⟨fun h=>?_,fun h=>?_⟩
 ·obtain ⟨c,hc,aF,hlt⟩:=du (zp h);rw [aF] at hx;have hcs:=hd.mem c (zm hc);have aD:(x.length * 4+4) * 96<=140737488355328:=zO;simp only [↓wR,zT,simprocAttr,h];refine ⟨zK,.inl ?_⟩
  repeat (first|simp only [↓wR,zT,simprocAttr,hc,B2,hcs,aD]|simp (disch:=omega) only [zW])
  refine ⟨by apply hq;kernel_rfl,x++[c],⟨by simp;omega,by simpa using hx⟩,by simp;omega,zF,?_⟩;rw [Oz,za];rfl
 ·rw [eu (zq h),zzn] at hx;subst hx;simp only [↓wR,zT,simprocAttr,h]
noncomputable def vm (x:ba × Unit):Option AV:=if db x.1 then some ((r1 ag).E true (x.1)) else none
theorem Iq (x:ba × Unit) (r:AV) (h:vm x=some r):bj PP 75 ((aC ag a0).E x) r:=by obtain ⟨hc,rfl⟩:=zI h;exact az (ar.cons (aq pv) (ar.cons (aq afk) (ar.nil PP))) Tryz.func75 zK zK zK zL (r1 ag) true (x.1) (at6 x.1 hc)
noncomputable abbrev aav:zE:=(75,true,cx (aC ag a0) vm)
theorem aoc (l:List ba) (hl:xf l) (hl2:l.length<=16777216):wl PP [aav] 0 (Tryz.f39.body.getD .skip) (c9 PP Tryz.f39.results.toList (fun r st=>(r1 (cg ag)).get true st.h r=some l)) (cp 0 [(cg ag).val false l]) (bg []):=by
 unfold Tryz.f39;simp only [l5];simp only [↓wR,zT,simprocAttr];refine fg [0,4,3] (fun (x:List ba)=>[zs l,zi x.length,.sl 0 0 x.length 5]) (fun x=>[some (.row (cellsOf ag true (x)) 0 0 63)]) (fun x=>x.length<=l.length/\x++l.drop x.length=l) (fun x=>l.length - x.length) [] ⟨zzb _,rfl⟩ zX ?_;rintro x ⟨hi,hx⟩;simp only [↓wR,zT,simprocAttr];rw [bh];refine ⟨fun h=>?_,fun h=>?_⟩
 ·obtain ⟨c,hc,aF,hlt⟩:=du (zp h);rw [aF] at hx;have hcs:=hl.2 c (zm hc);have aD:(x.length * 5+5) * 64<=140737488355328:=zO
  repeat (first|simp only [↓wR,zT,simprocAttr,h,hc,vm,hcs,aD]|simp (disch:=omega) only [zW])
  refine ⟨x++[c],⟨by simp;omega,by simpa using hx⟩,by simp;omega,zF,?_⟩;rw [kr]
 ·rw [eu (zq h),zzn] at hx;subst hx;simp only [↓wR,zT,simprocAttr,h]
noncomputable def Gn (x:List ba × Unit):Option AV:=if xf x.1/\x.1.length<=16777216 then some ((r1 (cg ag)).E true (x.1)) else none
theorem ae3 (x:List ba × Unit) (r:AV) (h:Gn x=some r):bj PP 39 ((aC (cg ag) a0).E x) r:=by obtain ⟨hc,rfl⟩:=zI h;exact az (ar.cons (aq Iq) (ar.nil PP)) Tryz.func39 zK zK zK zL (r1 (cg ag)) true (x.1) (aoc x.1 hc.1 hc.2)
noncomputable abbrev aB2:zE:=(39,true,cx (aC (cg ag) a0) Gn)
theorem aow (z:ay) (hz:bo z):wl PP [Ad,aB2] 0 (Tryz.f8.body.getD .skip) (c9 PP Tryz.f8.results.toList (fun r st=>(r1 bf).get true st.h r=some z)) (cp 0 [bf.val false z]) (bg []):=by
 have dT:=ml hz.origin;have hzl:=hz.len;have hq:∀ a b c d,ft a b c=d->ft a b c=d:=fun _ _ _ _ h=>h
 unfold Tryz.f8;simp only [dy];simp only [↓wR,zT,simprocAttr];refine ⟨zK,.inl ?_⟩;simp only [↓wR,zT,simprocAttr,lz,dT,Gn,hz.mid,hzl];apply hq;kernel_rfl
noncomputable def Fv (x:ay × Unit):Option AV:=if bo x.1 then some ((r1 bf).E true (x.1)) else none
theorem afo (x:ay × Unit) (r:AV) (h:Fv x=some r):bj PP 8 ((aC bf a0).E x) r:=by obtain ⟨hc,rfl⟩:=zI h;exact az (ar.cons (aq pv) (ar.cons (aq ae3) (ar.nil PP))) Tryz.func8 zK zK zK zL (r1 bf) true (x.1) (aow x.1 hc)
noncomputable abbrev ahs:zE:=(8,true,cx (aC bf a0) Fv)
theorem dx.aHl {h:Tr bp}:∀ (a:List AV) {b c:List AV},dx h b c->dx h (a++b) (a++c)
 | [],_,_,q=>q
 |x::a,_,_,q=>.cons (.same x) (dx.aHl a q)
theorem axd {t:UInt16} {d:cq} (h:om t=true):nj t d=d:=by
 have hk:(c8 t).names=0:=by
  unfold om at h;unfold c8
  repeat' split
  all_goals first|rfl|(exfalso;simp at h;omega)
 unfold nj;rw [hk,if_neg zO]
theorem akb (t:UInt16) : 0<=(c8 t).names:=by
 unfold c8
 repeat' split
 all_goals decide
set_option maxHeartbeats 4000000 in
theorem aBo (t:UInt16) (d:cq) (hd:da d):wl PP [rOf,al4] 0 (Tryz.f184.body.getD .skip) (c9 PP Tryz.f184.results.toList (fun r st=>(r1 bc).get false st.h r=some (nj t d))) (cp 0 [cj.val false t,bc.val false d]) (bg []):=by
 have hl:=hd.lens;have aN:=akb t;unfold Tryz.f184;simp only [iy,bz];simp only [↓wR,zT,simprocAttr,age,x6];rw [cw];refine ⟨fun hb=>?_,fun hb=>?_⟩
 ·have hb':om t=true:=by simpa using hb
  rw [axd hb'];simp only [↓wR,zT,simprocAttr,hb]
 simp only [↓wR,zT,simprocAttr,hb];unfold nj;rw [cf];refine ⟨fun ⟨h0,e0⟩=>?_,fun ⟨h0,e0⟩=>?_⟩
 ·rw [if_neg zO];simp only [↓wR,zT,simprocAttr,h0]
 rw [if_pos zO];simp only [↓wR,zT,simprocAttr,h0];refine J6 [3,4,8,7] (fun (x:List Name)=>[.ptr 0 0,.ptr 1 0,zi x.length,.ptr 2 0]) (fun x=>[some (.row [zv d.names,zu d.nums,zn d.texts,zw d.raw] 0 2 116),some (.row [.sc (.slice none 0 0),.sc (.slice none 0 0),.sc (.slice none 0 0),.sc (.slice none 0 0)] 0 2 116),some (.row [.sl 3 0 x.length 1,zu d.nums,zn d.texts,zw d.raw] 0 2 116),some (.row (x.map (aj.val true)) 0 0 23)]) (fun x=>x.length<=d.names.length/\x++(d.names.drop x.length).map fh=d.names.map fh) (fun x=>d.names.length - x.length) [] ⟨zzb _,rfl⟩ zX ?_;rintro x ⟨hi,hx⟩;simp only [↓wR,zT,simprocAttr];rw [bh];refine ⟨fun h=>?_,fun h=>?_⟩
 ·obtain ⟨c,hc,aF,hlt⟩:=du (zp h);rw [aF,List.map_cons] at hx;have oX:=hd.name c (zm hc);have hcl:=oX.lt;simp only [↓wR,zT,simprocAttr,h];refine fg [3,4,8,10,7,9] (fun (y:Name)=>[.ptr 0 0,.ptr 1 0,zi x.length,zi y.length,.ptr 2 0,.sl 4 0 y.length 1]) (fun y=>[some (.row [zv d.names,zu d.nums,zn d.texts,zw d.raw] 0 2 116),some (.row [.sc (.slice none 0 0),.sc (.slice none 0 0),.sc (.slice none 0 0),.sc (.slice none 0 0)] 0 2 116),some (.row [.sl 3 0 x.length 1,zu d.nums,zn d.texts,zw d.raw] 0 2 116),some (.row (x.map (aj.val true)) 0 0 23),some (.row (y.map (ai.val false)) 0 0 9)]) (fun y=>y.length<=c.length/\y++(c.drop y.length).map fold=fh c) (fun y=>c.length - y.length) [] ⟨zzb _,rfl⟩ zX ?_;rintro y ⟨hj,hy⟩;simp only [↓wR,zT,simprocAttr,hc];rw [bh];refine ⟨fun h2=>?_,fun h2=>?_⟩
  ·obtain ⟨s,hs,dM,hlt2⟩:=du (zp h2);rw [dM,List.map_cons] at hy;have qF:=oX.label s (zm hs)
   repeat (first|simp only [↓wR,zT,simprocAttr,h2,hc,hs,zo,qF,bz]|simp (disch:=omega) only [zW])
   exact ⟨y++[fold s],⟨by simp;omega,by simpa using hy⟩,by simp;omega,zF,zF⟩
  rw [eu (zq h2)] at hy;obtain rfl:y=fh c:=by simpa using hy
  repeat (first|simp only [↓wR,zT,simprocAttr,h2]|simp (disch:=omega) only [zW])
  have gB:(fh c).length=c.length:=by simp [fh]
  refine ⟨x++[fh c],⟨by simp;omega,by simpa using hx⟩,by simp;omega,?_⟩;rw [show ((x++[fh c]).length:Int)=(x.length:Int)+1 by simp,zzw,za,zyg,List.map_cons,List.map_nil];refine .trans (vs':=[.ptr 0 0,.ptr 1 0,zi ((x.length:Int)+1),.ptr 2 0]) (os':=[some (.row [zv d.names,zu d.nums,zn d.texts,zw d.raw] 0 2 116),some (.row [.sc (.slice none 0 0),.sc (.slice none 0 0),.sc (.slice none 0 0),.sc (.slice none 0 0)] 0 2 116),some (.row [.sl 3 0 (x.length+1) 1,zu d.nums,zn d.texts,zw d.raw] 0 2 116),some (.row (x.map (aj.val true)++[aj.val true (fh c)]) 0 0 23),none]) (ir.lax [4] (zB rfl) (dx.refl _ _) (.same (.same (.same (.row (dx.aHl _ (.cons (.data (cg ai) true (fh c) _ ?_) .nil)) (bw.refl _ _)))))) (ir.aii (by decide) ?_ ?_)<;>simp only [↓wR,zT,simprocAttr,xg,Bj,Br,te]
 ·rw [eu (zq h)] at hx;have iK:x=d.names.map fh:=by simpa using hx
  have bD:d.names.length=x.length:=by rw [iK,zzo]
  rw [<- iK];simp only [↓wR,zT,simprocAttr,h];rfl
noncomputable def Sc (x:UInt16 × cq × Unit):Option AV:=if da x.2.1 then some ((r1 bc).E false (nj x.1 x.2.1)) else none
theorem ar2 (x:UInt16 × cq × Unit) (r:AV) (h:Sc x=some r):bj PP 184 ((aC cj (aC bc a0)).E x) r:=by obtain ⟨hc,rfl⟩:=zI h;exact az (ar.cons (aq Wp) (ar.cons (aq Ou) (ar.nil PP))) Tryz.func184 zK zK zK zL (r1 bc) false (nj x.1 x.2.1) (aBo x.1 x.2.1 hc)
noncomputable abbrev aIr:zE:=(184,true,cx (aC cj (aC bc a0)) Sc)
theorem Wk:∀ l m:List UInt8,Op.bytesLess l m=decide (Lib.compareBytes l m<0)
 | [],[]=>rfl
 |_::_,[]=>rfl
 | [],_::_=>rfl
 |a::l,b::m=>by
  have ih:=Wk l m;simp only [Op.bytesLess,Lib.compareBytes,ih];by_cases h1:a<b
  ·simp [h1]
  ·by_cases h2:b<a
   ·have:¬ a=b:=fun e=>by subst e;exact h1 h2
    simp [h1,h2,this]
   ·have:a=b:=by rw [UInt8.lt_iff_toNat_lt] at h1 h2;exact UInt8.toNat_inj.1 zO
    subst this;simp [h1]
theorem aha:∀ l m:List UInt8,Lib.compareBytes l m = -1\/Lib.compareBytes l m=0\/Lib.compareBytes l m=1
 | [],[]=>.inr (.inl rfl)
 |_::_,[]=>.inr (.inr rfl)
 | [],_::_=>.inl rfl
 |a::l,b::m=>by
  have ih:=aha l m;simp only [Lib.compareBytes]
  split
  ·exact .inl rfl
  ·split
   ·exact .inr (.inr rfl)
   ·exact ih
theorem cmp_eq (l m:List UInt8):(l == m)=decide (Lib.compareBytes l m=0):=by rw [zyb];simp only [beq_iff_eq,decide_eq_true_eq];exact ⟨fun e=>by rw [e];exact Sk _,fun e=>ab2 _ _ e⟩
theorem at1 {P:Program} {t:TypeId} (a b:ByteArray):ev P (binOp .lss t (.string a) (.string b))=some (.bool (decide (Lib.compareBytes a.data.toList b.data.toList<0))):=by rw [<- Wk,<- ByteArray.toList_eq,<- ByteArray.toList_eq];rfl
theorem aut {P:Program} {t:TypeId} (a b:ByteArray):ev P (binOp .gtr t (.string a) (.string b))=some (.bool (decide (0<Lib.compareBytes a.data.toList b.data.toList))):=by
 have h:(!(Op.bytesLess a.toList b.toList || (a.toList == b.toList)))=decide (0<Lib.compareBytes a.data.toList b.data.toList):=by rw [Wk,cmp_eq,ByteArray.toList_eq,ByteArray.toList_eq,zyb];simp;omega
 rw [<- h];rfl
theorem Xm (t:UInt16) (a b:cq) (ha:da a) (hb:da b):wl PP [M7,aIr,aF6] 0 (Tryz.f142.body.getD .skip) (c9 PP Tryz.f142.results.toList (fun r st=>(r1 (bb .i64)).get true st.h r=some (if ek t a≠0\/ek t b≠0 then 0 else E0 t a b))) (cp 0 [cj.val false t,bc.val false a,bc.val false b]) (bg []):=by
 unfold Tryz.f142;simp only [iy,bz];simp only [↓wR,zT,simprocAttr,qq,ha,hb];rw [dh];refine ⟨fun ⟨h1,e1⟩=>?_,fun ⟨h1,e1⟩=>?_⟩
 ·rw [if_pos (.inl e1)];simp only [↓wR,zT,simprocAttr,h1]
 simp only [↓wR,zT,simprocAttr,h1,qq,ha,hb];rw [dh];refine ⟨fun ⟨h2,e2⟩=>?_,fun ⟨h2,e2⟩=>?_⟩
 ·rw [if_pos (.inr e2)];simp only [↓wR,zT,simprocAttr,h2]
 rw [if_neg zO];simp only [↓wR,zT,simprocAttr,h2];refine ⟨zK,.inl ?_⟩;have ea:=P8 e1;have eb:=P8 e2;have fa:=da.fold ha t;have fb:=da.fold hb t;simp only [↓wR,zT,simprocAttr,Sc,ha,hb,Lk,ea,eb,fa,fb];refine ⟨zK,?_⟩;have hv:E0 t a b=Lib.compareBytes (oo t (nj t a)) (oo t (nj t b)):=by unfold E0 Ii aa5;rw [if_neg zO,if_neg zO,if_neg zO]
 rw [hv];obtain ⟨x,hx⟩:∃ x,x=oo t (nj t a):=⟨_,rfl⟩;obtain ⟨y,hy⟩:∃ y,y=oo t (nj t b):=⟨_,rfl⟩;rw [<- hx,<- hy];have h3:=aha x y;simp only [↓wR,zT,simprocAttr,at1];rw [bh];refine ⟨fun h4=>?_,fun h4=>?_⟩
 ·have h5:Lib.compareBytes x y = -1:=zO;rw [h5];simp only [↓wR,zT,simprocAttr,h4]
 ·simp only [↓wR,zT,simprocAttr,h4,aut];rw [bh];refine ⟨fun h6=>?_,fun h6=>?_⟩
  ·have h5:Lib.compareBytes x y=1:=zO;rw [h5];simp only [↓wR,zT,simprocAttr,h6]
  ·have h5:Lib.compareBytes x y=0:=zO;rw [h5];simp only [↓wR,zT,simprocAttr,h6]
noncomputable def n6 (x:UInt16 × cq × cq × Unit):Option AV:=if da x.2.1/\da x.2.2.1 then some ((r1 (bb .i64)).E true ((if ek x.1 x.2.1≠0\/ek x.1 x.2.2.1≠0 then 0 else E0 x.1 x.2.1 x.2.2.1))) else none
theorem G0 (x:UInt16 × cq × cq × Unit) (r:AV) (h:n6 x=some r):bj PP 142 ((aC cj (aC bc (aC bc a0))).E x) r:=by obtain ⟨hc,rfl⟩:=zI h;exact az (ar.cons (aq C8) (ar.cons (aq ar2) (ar.cons (aq anf) (ar.nil PP)))) Tryz.func142 zK zK zK zL (r1 (bb .i64)) true ((if ek x.1 x.2.1≠0\/ek x.1 x.2.2.1≠0 then 0 else E0 x.1 x.2.1 x.2.2.1)) (Xm x.1 x.2.1 x.2.2.1 hc.1 hc.2)
noncomputable abbrev Pw:zE:=(142,true,cx (aC cj (aC bc (aC bc a0))) n6)
theorem agr (t:UInt16) (a b:cq) (ha:da a) (hb:da b):wl PP [M7,Pw] 0 (Tryz.f174.body.getD .skip) (c9 PP Tryz.f174.results.toList (fun r st=>(r1 bk).get true st.h r=some (Bk t a b))) (cp 0 [cj.val false t,bc.val false a,bc.val false b]) (bg []):=by
 unfold Bk;unfold Tryz.f174;simp only [iy,bz];simp only [↓wR,zT,simprocAttr,qq,ha,hb];rw [cf];refine ⟨fun ⟨h1,e1⟩=>?_,fun ⟨h1,e1⟩=>?_⟩
 ·simp only [↓wR,zT,simprocAttr,h1,qq,ha,hb,e1];rw [cf];refine ⟨fun ⟨h2,e2⟩=>?_,fun ⟨h2,e2⟩=>?_⟩
  ·simp only [↓wR,zT,simprocAttr,h2,n6,ha,hb,e1,e2];rw [if_neg (by simp)];rfl
  ·simp only [↓wR,zT,simprocAttr,h2];simp [e2]
 ·simp only [↓wR,zT,simprocAttr,h1];simp [e1]
noncomputable def Dx (x:UInt16 × cq × cq × Unit):Option AV:=if da x.2.1/\da x.2.2.1 then some ((r1 bk).E true (Bk x.1 x.2.1 x.2.2.1)) else none
theorem Z8 (x:UInt16 × cq × cq × Unit) (r:AV) (h:Dx x=some r):bj PP 174 ((aC cj (aC bc (aC bc a0))).E x) r:=by obtain ⟨hc,rfl⟩:=zI h;exact az (ar.cons (aq C8) (ar.cons (aq G0) (ar.nil PP))) Tryz.func174 zK zK zK zL (r1 bk) true (Bk x.1 x.2.1 x.2.2.1) (agr x.1 x.2.1 x.2.2.1 hc.1 hc.2)
noncomputable abbrev axe:zE:=(174,true,cx (aC cj (aC bc (aC bc a0))) Dx)
theorem aH3 (t:UInt16) (l:List cq) (d:cq) (hl:pq l) (hd:da d):wl PP [axe] 0 (Tryz.f125.body.getD .skip) (c9 PP Tryz.f125.results.toList (fun r st=>(r1 bk).get true st.h r=some (Eu t l d))) (cp 0 [cj.val false t,(cg bc).val false l,bc.val false d]) (bg []):=by
 have cI:=hl.len;unfold Eu;unfold Tryz.f125;simp only [iy,bz];simp only [↓wR,zT,simprocAttr];refine dq [0,1,5,7] (fun (i:Nat)=>[.sc (.int .u16 t.toNat),zd l,.ptr 0 0,zi i]) (fun _=>[some (.row [zv d.names,zu d.nums,zn d.texts,zw d.raw] 0 2 116)]) (fun i=>i<=l.length/\(l.any fun x=>Bk t x d)=((l.drop i).any fun x=>Bk t x d)) (fun i=>l.length - i) 0 ⟨zzb _,rfl⟩ zS zS ?_;rintro i ⟨hi,hx⟩;simp only [↓wR,zT,simprocAttr];rw [bh];refine ⟨fun h=>?_,fun h=>?_⟩
 ·obtain ⟨c,hc,aF,hlt⟩:=du (zp h);have hsc:=hl.mem c (zm hc);rw [aF,List.any_cons] at hx;simp only [↓wR,zT,simprocAttr,h];refine ⟨zK,.inl ?_⟩;simp only [↓wR,zT,simprocAttr,hc,Dx,hsc,hd];refine ⟨zK,?_⟩;rw [cw];refine ⟨fun h2=>?_,fun h2=>?_⟩
  ·rw [hx,h2];simp only [↓wR,zT,simprocAttr,h2]
  ·rw [h2,Bool.false_or] at hx
   repeat (first|simp only [↓wR,zT,simprocAttr,h2]|simp (disch:=omega) only [zW])
   exact ⟨i+1,⟨hlt,hx⟩,zO,zF⟩
 ·rw [eu (zq h)] at hx;rw [hx];simp only [↓wR,zT,simprocAttr,h]
  try rfl
noncomputable def agv (x:UInt16 × List cq × cq × Unit):Option AV:=if pq x.2.1/\da x.2.2.1 then some ((r1 bk).E true (Eu x.1 x.2.1 x.2.2.1)) else none
theorem aBm (x:UInt16 × List cq × cq × Unit) (r:AV) (h:agv x=some r):bj PP 125 ((aC cj (aC (cg bc) (aC bc a0))).E x) r:=by obtain ⟨hc,rfl⟩:=zI h;exact az (ar.cons (aq Z8) (ar.nil PP)) Tryz.func125 zK zK zK zL (r1 bk) true (Eu x.1 x.2.1 x.2.2.1) (aH3 x.1 x.2.1 x.2.2.1 hc.1 hc.2)
noncomputable abbrev rIn:zE:=(125,true,cx (aC cj (aC (cg bc) (aC bc a0))) agv)
theorem aAn {α:Type} (C:dp α) {xs:List α} {i:Nat} {c : α} (hc:xs[i]? = some c):((cellsOf C true xs).drop (i * C.sz)).take C.sz=C.cells true c/\C.sz<=((cellsOf C true xs).drop (i * C.sz)).length:=by obtain ⟨hi,rfl⟩:=zg.1 hc;rw [Ih,zzs hi,qu];refine ⟨by rw [<- C.len true xs[i],List.take_left],by rw [za,C.len];omega⟩
theorem aik (s:ba) (hs:db s):wl PP [Pg,M7,rIn] 0 (Tryz.f104.body.getD .skip) (c9 PP Tryz.f104.results.toList (fun r st=>(r1 (bb .i64)).get true st.h r=some (mu s))) (cp 0 [ag.val false s]) (bg []):=by
 have ho:=hs.owner;have hd:=hs.data;have hn:=hd.len;unfold Tryz.f104;simp only [jz];simp only [↓wR,zT,simprocAttr,Af,ho.fit];unfold mu;rw [dh];refine ⟨fun ⟨h,he⟩=>?_,fun ⟨h,he⟩=>?_⟩
 ·rw [if_pos he];simp only [↓wR,zT,simprocAttr,h]
 rw [if_neg zO];simp only [↓wR,zT,simprocAttr,h];rw [cf];refine ⟨fun ⟨h1,e1⟩=>?_,fun ⟨h1,e1⟩=>?_⟩
 ·rw [if_pos zO];simp only [↓wR,zT,simprocAttr,h1]
 rw [if_neg zO];simp only [↓wR,zT,simprocAttr,h1];rw [bh];refine ⟨fun h2=>?_,fun h2=>?_⟩
 ·rw [if_pos zO];simp only [↓wR,zT,simprocAttr,h2]
 rw [if_neg zO];simp only [↓wR,zT,simprocAttr,h2];refine dq [1,4] (fun (i:Nat)=>[.ptr 0 0,zi i]) (fun _=>[(zY s)]) (fun i=>i<=s.data.length/\r9 s.type [] s.data=r9 s.type (s.data.take i) (s.data.drop i)) (fun i=>s.data.length - i) 0 ⟨zzb _,rfl⟩ zS zS ?_;rintro i ⟨hi,hx⟩;simp only [↓wR,zT,simprocAttr];rw [bh];refine ⟨fun h3=>?_,fun h3=>?_⟩
 ·obtain ⟨c,hc,aF,hlt⟩:=du (zp h3);rw [Uy _ hc] at hx;have hcs:=hd.mem c (zm hc);simp only [↓wR,zT,simprocAttr,h3];refine ⟨zK,.inl ?_⟩;simp only [↓wR,zT,simprocAttr,hc,qq,hcs];refine ⟨zK,?_⟩;rw [dh];refine ⟨fun ⟨h4,nR⟩=>?_,fun ⟨h4,nR⟩=>?_⟩
  ·rw [if_pos nR] at hx;rw [hx];simp only [↓wR,zT,simprocAttr,h4]
  ·rw [if_neg zO] at hx;simp only [↓wR,zT,simprocAttr,h4];refine ⟨zK,.inl ?_⟩;simp only [↓wR,zT,simprocAttr,hi,hc,agv,hd.take i,hcs];refine ⟨zK,?_⟩;rw [cw];refine ⟨fun h5=>?_,fun h5=>?_⟩
   ·rw [if_pos h5] at hx;rw [hx];simp only [↓wR,zT,simprocAttr,h5]
   ·rw [if_neg (by rw [h5];decide)] at hx
    repeat (first|simp only [↓wR,zT,simprocAttr,h5]|simp (disch:=omega) only [zW])
    exact ⟨i+1,⟨hlt,hx⟩,zO,zF⟩
 ·rw [eu (zq h3)] at hx;rw [hx];simp only [↓wR,zT,simprocAttr,h3]
  try rfl
noncomputable def De (x:ba × Unit):Option AV:=if db x.1 then some ((r1 (bb .i64)).E true (mu x.1)) else none
theorem aab (x:ba × Unit) (r:AV) (h:De x=some r):bj PP 104 ((aC ag a0).E x) r:=by obtain ⟨hc,rfl⟩:=zI h;exact az (ar.cons (aq Ba) (ar.cons (aq C8) (ar.cons (aq aBm) (ar.nil PP)))) Tryz.func104 zK zK zK zL (r1 (bb .i64)) true (mu x.1) (aik x.1 hc)
noncomputable abbrev ayo:zE:=(104,true,cx (aC ag a0) De)
noncomputable def jc (s:ba):ba:=if s.data.all (fun d=>decide (ek s.type d=0))=true then mkS s.owner s.type s.cls s.i9 (atu (ltD s.type) s.data) else s
theorem ay1 (a b:ba) (ha:db a) (hb:db b):wl PP [aAc] 0 (Tryz.f141.body.getD .skip) (c9 PP Tryz.f141.results.toList (fun r st=>(r1 bk).get true st.h r=some (decide (pr a b<0)))) (cp 0 [ag.val false a,ag.val false b]) (bg []):=by
 have oY:=ha.owner;have kA:=hb.owner;unfold pr J1 J1 J1;unfold Tryz.f141;simp only [jz];simp only [↓wR,zT,simprocAttr,Ft,oY,kA];rw [dh];refine ⟨fun ⟨h1,e1⟩=>?_,fun ⟨h1,e1⟩=>?_⟩
 ·rw [if_pos e1];simp only [↓wR,zT,simprocAttr,h1]
 rw [if_neg zO];simp only [↓wR,zT,simprocAttr,h1]
 congr 1
 rw [decide_eq_decide];unfold M0
 repeat' split
 all_goals omega
noncomputable def Hs (x:ba × ba × Unit):Option AV:=if db x.1/\db x.2.1 then some ((r1 bk).E true (decide (pr x.1 x.2.1<0))) else none
theorem anh (x:ba × ba × Unit) (r:AV) (h:Hs x=some r):bj PP 141 ((aC ag (aC ag a0)).E x) r:=by obtain ⟨hc,rfl⟩:=zI h;exact az (ar.cons (aq afh) (ar.nil PP)) Tryz.func141 zK zK zK zL (r1 bk) true (decide (pr x.1 x.2.1<0)) (ay1 x.1 x.2.1 hc.1 hc.2)
noncomputable abbrev aHi:zE:=(141,true,cx (aC ag (aC ag a0)) Hs)
theorem aA1 (z:ay) (n:Name) (hz:bo z) (hn:aw n):wl PP [po,aav] 0 (Tryz.f87.body.getD .skip) (c9 PP Tryz.f87.results.toList (fun r st=>(r1 (cg ag)).get true st.h r=some (fl z n))) (cp 0 [bf.val false z,aj.val false n]) (bg []):=by
 have hlen:=hz.len;unfold Tryz.f87;simp only [dy,bz];simp only [↓wR,zT,simprocAttr];refine fg [1,2,6,5] (fun (x:Nat × List ba)=>[zn n,.ptr 0 0,zi x.1,.sl 1 0 x.2.length 5]) (fun x=>[(zZ z),some (.row (cellsOf ag true (x.2)) 0 0 63)]) (fun x=>x.1<=z.ak.length/\x.2++(z.ak.drop x.1).filter (fun s=>dt s.owner n)=fl z n/\x.2.length<=x.1) (fun x=>z.ak.length - x.1) (0,[]) ⟨zzb _,rfl,zza _⟩ zX ?_;rintro ⟨i,x⟩ ⟨hi,hx,bY⟩;simp only at hi hx bY;simp only [↓wR,zT,simprocAttr];rw [bh];refine ⟨fun h=>?_,fun h=>?_⟩
 ·obtain ⟨c,hc,aF,hlt⟩:=du (zp h);have hcs:=hz.ak.mem c (zm hc);rw [aF,List.filter_cons] at hx;have aD:(x.length * 5+5) * 56<=140737488355328:=zO;simp only [↓wR,zT,simprocAttr,h,hc,xu,hcs.owner,hn];rw [cw];refine ⟨fun h2=>?_,fun h2=>?_⟩
  ·rw [if_pos h2] at hx
   repeat (first|simp only [↓wR,zT,simprocAttr,h2,hc,vm,hcs,aD]|simp (disch:=omega) only [zW])
   refine ⟨(i+1,x++[c]),⟨hlt,by simpa using hx,by simp;omega⟩,by simp;omega,zF,?_⟩;rw [kr]
  ·rw [if_neg (by rw [h2];decide)] at hx
   repeat (first|simp only [↓wR,zT,simprocAttr,h2]|simp (disch:=omega) only [zW])
   exact ⟨(i+1,x),⟨hlt,hx,by show x.length<=i+1;omega⟩,by simp;omega,zF,rfl⟩
 ·rw [eu (zq h),List.filter_nil,zzn] at hx;have hd:∀ fr h k st et,A5 fr st 5 ag.kd et=true->kl ag fr h 0 x.length (.row (cellsOf ag true x) k st et)=some x:=fun fr h k st et hro=>nv ag fr h true x k st et x.length rfl (by cases fr<;>rfl) hro
  rw [<- hx];simp only [↓wR,zT,simprocAttr,h,hd]
noncomputable def A2 (x:ay × Name × Unit):Option AV:=if bo x.1/\aw x.2.1 then some ((r1 (cg ag)).E true (fl x.1 x.2.1)) else none
theorem Dh (x:ay × Name × Unit) (r:AV) (h:A2 x=some r):bj PP 87 ((aC bf (aC aj a0)).E x) r:=by obtain ⟨hc,rfl⟩:=zI h;exact az (ar.cons (aq um) (ar.cons (aq Iq) (ar.nil PP))) Tryz.func87 zK zK zK zL (r1 (cg ag)) true (fl x.1 x.2.1) (aA1 x.1 x.2.1 hc.1 hc.2)
noncomputable abbrev Z4:zE:=(87,true,cx (aC bf (aC aj a0)) A2)
def Az (z:ay) (s:ba):Bool:=decide ((s.type.toNat:Int)=2) && (dj s.owner z.origin && !dt s.owner z.origin)
def Be (z:ay):List Name:=(z.ak.filter (Az z)).map (·.owner)
theorem aE4 {z:ay} {l:List ba} {i:Nat} {c:ba} (h:l.drop i=c::l.drop (i+1)):((l.drop i).filter (Az z)).map (·.owner)=(if Az z c=true then [c.owner] else [])++((l.drop (i+1)).filter (Az z)).map (·.owner):=by rw [h,List.filter_cons];split<;>rfl
theorem azu (z:ay) (hz:bo z):wl PP [m8,po,Ad] 0 (Tryz.f136.body.getD .skip) (c9 PP Tryz.f136.results.toList (fun r st=>(r1 (cg aj)).get true st.h r=some (Be z))) (cp 0 [bf.val false z]) (bg []):=by
 have hlen:=hz.len;have jN:=hz.origin;unfold Tryz.f136;simp only [dy];simp only [↓wR,zT,simprocAttr];refine fg [1,4,3] (fun (x:Nat × List Name)=>[.ptr 0 0,zi x.1,.sl 1 0 x.2.length 1]) (fun x=>[(zZ z),some (.row (x.2.map (aj.val true)) 0 0 23)]) (fun x=>x.1<=z.ak.length/\x.2++((z.ak.drop x.1).filter (Az z)).map (·.owner)=Be z/\x.2.length<=x.1) (fun x=>z.ak.length - x.1) (0,[]) ⟨zzb _,rfl,zza _⟩ zX ?_;rintro ⟨i,x⟩ ⟨hi,hx,bY⟩;simp only at hi hx bY;simp only [↓wR,zT,simprocAttr];rw [bh];refine ⟨fun h=>?_,fun h=>?_⟩
 ·obtain ⟨c,hc,aF,hlt⟩:=du (zp h);have hcs:=hz.ak.mem c (zm hc);have dT:=ml hcs.owner;rw [aE4 aF] at hx;have aD:(x.length+1) * 24<=140737488355328:=zO;have bQ:(x.length+1) * 16<=140737488355328:=zO;simp only [↓wR,zT,simprocAttr,h,hc];rw [cf];refine ⟨fun ⟨h1,e1⟩=>?_,fun ⟨h1,e1⟩=>?_⟩
  ·simp only [↓wR,zT,simprocAttr,h1,rp,hcs.owner,jN];rw [cw];refine ⟨fun h2=>?_,fun h2=>?_⟩
   ·simp only [↓wR,zT,simprocAttr,h2,xu,hcs.owner,jN];rw [cw];refine ⟨fun h3=>?_,fun h3=>?_⟩
    ·have dP:dt c.owner z.origin=false:=by simpa using h3
     have hp:Az z c=true:=by simp [Az,e1,h2,dP]
     rw [if_pos hp] at hx
     repeat (first|simp only [↓wR,zT,simprocAttr,h3,lz,dT,aD,bQ]|simp (disch:=omega) only [zW])
     refine ⟨(i+1,x++[c.owner]),⟨hlt,by simpa using hx,by simp;omega⟩,by simp;omega,zF,zF⟩
    ·have dP:dt c.owner z.origin=true:=by simpa using h3
     have hp:Az z c=false:=by simp [Az,dP]
     rw [hp,if_neg (by decide),List.nil_append] at hx
     repeat (first|simp only [↓wR,zT,simprocAttr,h3]|simp (disch:=omega) only [zW])
     exact ⟨(i+1,x),⟨hlt,hx,by show x.length<=i+1;omega⟩,by simp;omega,zF,rfl⟩
   ·have hp:Az z c=false:=by simp [Az,h2]
    rw [hp,if_neg (by decide),List.nil_append] at hx
    repeat (first|simp only [↓wR,zT,simprocAttr,h2]|simp (disch:=omega) only [zW])
    exact ⟨(i+1,x),⟨hlt,hx,by show x.length<=i+1;omega⟩,by simp;omega,zF,rfl⟩
  ·have hp:Az z c=false:=by simp [Az,e1]
   rw [hp,if_neg (by decide),List.nil_append] at hx
   repeat (first|simp only [↓wR,zT,simprocAttr,h1]|simp (disch:=omega) only [zW])
   exact ⟨(i+1,x),⟨hlt,hx,by show x.length<=i+1;omega⟩,by simp;omega,zF,rfl⟩
 ·rw [eu (zq h)] at hx;have hx':x=Be z:=by simpa using hx
  rw [<- hx'];simp only [↓wR,zT,simprocAttr,h]
noncomputable def Qh (x:ay × Unit):Option AV:=if bo x.1 then some ((r1 (cg aj)).E true (Be x.1)) else none
theorem auj (x:ay × Unit) (r:AV) (h:Qh x=some r):bj PP 136 ((aC bf a0).E x) r:=by obtain ⟨hc,rfl⟩:=zI h;exact az (ar.cons (aq ye) (ar.cons (aq um) (ar.cons (aq pv) (ar.nil PP)))) Tryz.func136 zK zK zK zL (r1 (cg aj)) true (Be x.1) (azu x.1 hc)
noncomputable abbrev aJb:zE:=(136,true,cx (aC bf a0) Qh)
def Bp (n:Name) (cY:Option Name) (m:Name):Option Name:=if (dj n m && Ed m cY)=true then some m else cY
theorem aya (n top:Name):E3 n top=(dj n top && !dt n top):=by
 have e1:(fh top).length=top.length:=by simp [fh]
 have e2:(fh n).length=n.length:=by simp [fh]
 unfold E3 dj dt;by_cases hs:fh top <:+ fh n
 ·have hl:=hs.length_le;rw [zp hs,Bool.and_true,Bool.true_and,zyb];simp only [decide_eq_true_eq,zyd,decide_eq_false_iff_not];refine ⟨fun h q=>?_,fun h=>?_⟩
  ·have:=congrArg List.length q;omega
  ·rcases zyf top.length n.length with q|q
   ·exact q
   ·exact absurd (hs.eq_of_length zO).symm h
 ·rw [zq hs,Bool.and_false,Bool.false_and]
theorem aAu (z:ay) (n:Name) (cY:Option Name) (s:ba):kq z n cY s=if Az z s=true then Bp n cY s.owner else cY:=by unfold kq Az Bp;rw [aya];cases decide ((s.type.toNat:Int)=2)<;>cases dj s.owner z.origin<;>cases dt s.owner z.origin<;>simp
theorem ajk (z:ay) (n:Name):k7 z n=(Be z).foldl (Bp n) none:=by
 unfold k7 Be;generalize (none:Option Name)=b
 induction z.ak generalizing b with
 |nil=>rfl
 |cons s l ih=>
  rw [List.foldl_cons,aAu,List.filter_cons]
  split
  ·rw [List.map_cons,List.foldl_cons];exact ih _
  ·exact ih _
def Sv:Option Nat->Int
 |none=>-1
 |some k=>k
theorem aud {z:ay} (hz:bo z):(Be z).length<=16777216/\∀ m ∈ Be z,aw m:=by unfold Be;refine ⟨by rw [zzo];exact zzu (List.length_filter_le _ _) hz.len,fun m hm=>?_⟩;obtain ⟨s,hs,rfl⟩:=zyj.1 hm;exact (hz.ak.mem s (List.mem_filter.1 hs).1).owner
theorem azh {α β:Type} (f : β -> α -> β) (b : β) {l:List α} {i:Nat} {c : α} (h:l[i]? = some c):(l.take (i+1)).foldl f b=f ((l.take i).foldl f b) c:=by obtain ⟨hi,rfl⟩:=zg.1 h;rw [zz5 hi,List.foldl_append];rfl
theorem aE5 (z:ay) (n:Name) (hz:bo z) (hn:aw n):wl PP [aJb,m8] 0 (Tryz.f86.body.getD .skip) (c9 PP Tryz.f86.results.toList (fun r st=>(r2 aj bk).get true st.h r=some ((k7 z n).getD [],(k7 z n).isSome))) (cp 0 [bf.val false z,aj.val false n]) (bg []):=by
 obtain ⟨pM,hL2⟩:=aud hz;rw [ajk];obtain ⟨L,hL⟩:∃ L,L=Be z:=⟨_,rfl⟩;rw [<- hL] at pM hL2 ⊢;unfold Tryz.f86;simp only [dy,bz];simp only [↓wR,zT,simprocAttr,Qh,hz,<- hL];refine dq [1,6,7,8] (fun (x:Nat × Option Nat)=>[zn n,.vl true 1 (L.map (aj.val true)),zi (Sv x.2),zi x.1]) (fun _=>[]) (fun x=>x.1<=L.length/\(L.take x.1).foldl (Bp n) none=x.2.bind (fun k=>L[k]?)/\∀ k,x.2=some k->k<L.length) (fun x=>L.length - x.1) (0,none) ⟨zzb _,rfl,fun k h=>by cases h⟩ zS zS ?_;rintro ⟨i,b⟩ ⟨hi,hx,hb⟩;simp only at hi hx hb;simp only [↓wR,zT,simprocAttr];rw [bh];refine ⟨fun h=>?_,fun h=>?_⟩
 ·obtain ⟨c,hc,aF,hlt⟩:=du (zp h);have hcs:=hL2 c (zm hc);have hf:=azh (Bp n) none hc;rw [hx] at hf;simp only [↓wR,zT,simprocAttr,h];refine ⟨zK,.inl ?_⟩;simp only [↓wR,zT,simprocAttr,hc,rp,hn,hcs,bz];rw [cw];refine ⟨fun h2=>?_,fun h2=>?_⟩
  ·cases b with
   |none=>
    have hv:(L.take (i+1)).foldl (Bp n) none=(some i).bind (fun k=>L[k]?):=by rw [hf];show Bp n none c=L[i]?;unfold Bp Ed;rw [h2,hc];rfl
    repeat (first|simp only [↓wR,zT,simprocAttr,h2,Sv]|simp (disch:=omega) only [zW])
    exact ⟨zK,(i+1,some i),⟨hlt,hv,fun k e=>by cases e;exact hlt⟩,by simp;omega,zF⟩
   |some k=>
    have hk:=hb k rfl;obtain ⟨m,hm⟩:∃ m,L[k]? = some m:=⟨_,zh hk⟩;have hf':(L.take (i+1)).foldl (Bp n) none=if c.length<m.length then some c else some m:=by rw [hf];show Bp n (L[k]?) c=_;rw [hm];unfold Bp Ed;simp only [h2,Bool.true_and,decide_eq_true_eq]
    have h0:¬ (k:Int)<0:=zO;rw [show Sv (some k)=(k:Int) from rfl]
    repeat (first|simp only [↓wR,zT,simprocAttr,h2,hc,hm,bz,h0]|simp (disch:=omega) only [zW])
    refine ⟨zK,?_⟩;rw [bh];refine ⟨fun h3=>?_,fun h3=>?_⟩
    ·rw [if_pos zO] at hf'
     repeat (first|simp only [↓wR,zT,simprocAttr,h3]|simp (disch:=omega) only [zW])
     exact ⟨(i+1,some i),⟨hlt,by rw [hf'];exact hc.symm,fun k e=>by cases e;exact hlt⟩,by simp;omega,zF⟩
    ·rw [if_neg zO] at hf'
     repeat (first|simp only [↓wR,zT,simprocAttr,h3]|simp (disch:=omega) only [zW])
     exact ⟨(i+1,some k),⟨hlt,by rw [hf'];exact hm.symm,hb⟩,by simp;omega,zF⟩
  ·have hv:(L.take (i+1)).foldl (Bp n) none=b.bind (fun k=>L[k]?):=by
    rw [hf];unfold Bp;rw [h2,Bool.false_and,if_neg (by decide)]
   repeat (first|simp only [↓wR,zT,simprocAttr,h2]|simp (disch:=omega) only [zW])
   exact ⟨zK,(i+1,b),⟨hlt,hv,hb⟩,by simp;omega,zF⟩
 ·have bX:L.take i=L:=zzp zO;rw [bX] at hx;rw [hx];simp only [↓wR,zT,simprocAttr,h];cases b with
  |none=>
   simp only [↓wR,zT,simprocAttr,Sv]
   try rfl
  |some k=>
   have hk:=hb k rfl;obtain ⟨m,hm⟩:∃ m,L[k]? = some m:=⟨_,zh hk⟩;rw [show Sv (some k)=(k:Int) from rfl];simp only [↓wR,zT,simprocAttr,hm];rw [bh];refine ⟨fun h3=>?_,fun h3=>?_⟩
   ·exfalso;omega
   simp only [↓wR,zT,simprocAttr,h3,hm,bz]
   try rfl
noncomputable def Np (x:ay × Name × Unit):Option AV:=if bo x.1/\aw x.2.1 then some ((r2 aj bk).E true (((k7 x.1 x.2.1).getD [],(k7 x.1 x.2.1).isSome))) else none
theorem aen (x:ay × Name × Unit) (r:AV) (h:Np x=some r):bj PP 86 ((aC bf (aC aj a0)).E x) r:=by obtain ⟨hc,rfl⟩:=zI h;exact az (ar.cons (aq auj) (ar.cons (aq ye) (ar.nil PP))) Tryz.func86 zK zK zK zL (r2 aj bk) true (((k7 x.1 x.2.1).getD [],(k7 x.1 x.2.1).isSome)) (aE5 x.1 x.2.1 hc.1 hc.2)
noncomputable abbrev aF3:zE:=(86,true,cx (aC bf (aC aj a0)) Np)
theorem aEd (z:ay) (n:Name) (hz:bo z) (hn:aw n):wl PP [m8,po] 0 (Tryz.f88.body.getD .skip) (c9 PP Tryz.f88.results.toList (fun r st=>(r1 bk).get true st.h r=some (oy z n))) (cp 0 [bf.val false z,aj.val false n]) (bg []):=by
 have hlen:=hz.len;have jN:=hz.origin;unfold oy;unfold Tryz.f88;simp only [dy,bz];simp only [↓wR,zT,simprocAttr,rp,hn,jN];rw [cw];refine ⟨fun h1=>?_,fun h1=>?_⟩
 ·have h1':dj n z.origin=false:=by simpa using h1
  rw [h1'];simp only [↓wR,zT,simprocAttr,h1]
  try rfl
 have h1':dj n z.origin=true:=by simpa using h1
 rw [h1',Bool.true_and];simp only [↓wR,zT,simprocAttr,h1,xu,hn,jN];rw [cw];refine ⟨fun h2=>?_,fun h2=>?_⟩
 ·rw [h2];simp only [↓wR,zT,simprocAttr,h2]
  try rfl
 rw [h2,Bool.false_or];simp only [↓wR,zT,simprocAttr,h2];refine dq [1,2,5] (fun (i:Nat)=>[zn n,.ptr 0 0,zi i]) (fun _=>[(zZ z)]) (fun i=>i<=z.ak.length/\(z.ak.any fun s=>dj s.owner n)=((z.ak.drop i).any fun s=>dj s.owner n)) (fun i=>z.ak.length - i) 0 ⟨zzb _,rfl⟩ zS zS ?_;rintro i ⟨hi,hx⟩;simp only [↓wR,zT,simprocAttr];rw [bh];refine ⟨fun h=>?_,fun h=>?_⟩
 ·obtain ⟨c,hc,aF,hlt⟩:=du (zp h);have hcs:=hz.ak.mem c (zm hc);rw [aF,List.any_cons] at hx;simp only [↓wR,zT,simprocAttr,h,hc,rp,hcs.owner,hn];rw [cw];refine ⟨fun h3=>?_,fun h3=>?_⟩
  ·rw [hx,h3];simp only [↓wR,zT,simprocAttr,h3]
   try rfl
  ·rw [h3,Bool.false_or] at hx
   repeat (first|simp only [↓wR,zT,simprocAttr,h3]|simp (disch:=omega) only [zW])
   exact ⟨i+1,⟨hlt,hx⟩,zO,zF⟩
 ·rw [eu (zq h)] at hx;rw [hx];simp only [↓wR,zT,simprocAttr,h]
  try rfl
noncomputable def M8 (x:ay × Name × Unit):Option AV:=if bo x.1/\aw x.2.1 then some ((r1 bk).E true (oy x.1 x.2.1)) else none
theorem acf (x:ay × Name × Unit) (r:AV) (h:M8 x=some r):bj PP 88 ((aC bf (aC aj a0)).E x) r:=by obtain ⟨hc,rfl⟩:=zI h;exact az (ar.cons (aq ye) (ar.cons (aq um) (ar.nil PP))) Tryz.func88 zK zK zK zL (r1 bk) true (oy x.1 x.2.1) (aEd x.1 x.2.1 hc.1 hc.2)
noncomputable abbrev aIa:zE:=(88,true,cx (aC bf (aC aj a0)) M8)
def ou (z:ay) (s:ba):Bool:=decide ((s.type.toNat:Int)=5) && (decide ((s.data.length:Int)≠1) || (dt s.owner z.origin || decide ((1:Int)<(fl z s.owner).length)))
theorem awh (z:ay) (s:ba) (hz:bo z) (hs:db s):wl PP [po,Z4] 0 (Tryz.f143.body.getD .skip) (c9 PP Tryz.f143.results.toList (fun r st=>(r1 bk).get true st.h r=some (ou z s))) (cp 0 [bf.val false z,ag.val false s]) (bg []):=by
 have iP:=hs.owner;have jN:=hz.origin;unfold ou;unfold Tryz.f143;simp only [dy,jz];simp only [↓wR,zT,simprocAttr];rw [cf];refine ⟨fun ⟨h1,e1⟩=>?_,fun ⟨h1,e1⟩=>?_⟩
 ·rw [zp e1,Bool.true_and];simp only [↓wR,zT,simprocAttr,h1];rw [dh];refine ⟨fun ⟨h2,e2⟩=>?_,fun ⟨h2,e2⟩=>?_⟩
  ·rw [zp e2,Bool.true_or];simp only [↓wR,zT,simprocAttr,h2]
   try rfl
  ·rw [zq zO,Bool.false_or];simp only [↓wR,zT,simprocAttr,h2,xu,iP,jN];rw [cw];refine ⟨fun h3=>?_,fun h3=>?_⟩
   ·rw [h3,Bool.true_or];simp only [↓wR,zT,simprocAttr,h3]
    try rfl
   ·rw [h3,Bool.false_or];simp only [↓wR,zT,simprocAttr,h3,A2,hz,iP]
    try rfl
 ·rw [zq e1,Bool.false_and];simp only [↓wR,zT,simprocAttr,h1]
  try rfl
noncomputable def Ms (x:ay × ba × Unit):Option AV:=if bo x.1/\db x.2.1 then some ((r1 bk).E true (ou x.1 x.2.1)) else none
theorem an5 (x:ay × ba × Unit) (r:AV) (h:Ms x=some r):bj PP 143 ((aC bf (aC ag a0)).E x) r:=by obtain ⟨hc,rfl⟩:=zI h;exact az (ar.cons (aq um) (ar.cons (aq Dh) (ar.nil PP))) Tryz.func143 zK zK zK zL (r1 bk) true (ou x.1 x.2.1) (awh x.1 x.2.1 hc.1 hc.2)
noncomputable abbrev se:zE:=(143,true,cx (aC bf (aC ag a0)) Ms)
theorem ass {z:ay} {n m:Name} (hz:bo z) (h:k7 z n=some m):aw m:=Rb (n:=n) hz z.ak none (fun _ h=>h) (fun m hm=>by cases hm) m h
theorem aq8 (a b:Name):dt a b=dt b a:=by unfold dt;rw [decide_eq_decide];exact eq_comm
theorem aj0 (z:ay) (s:ba) (hz:bo z) (hs:db s):wl PP [aF3,po] 0 (Tryz.f144.body.getD .skip) (c9 PP Tryz.f144.results.toList (fun r st=>(r1 bk).get true st.h r=some (!nc z s))) (cp 0 [bf.val false z,ag.val false s]) (bg []):=by
 have iP:=hs.owner;unfold nc;unfold Tryz.f144;simp only [dy,jz];simp only [↓wR,zT,simprocAttr,Np,hz,iP];cases hc:k7 z s.owner with
 |none=>
  simp only [↓wR,zT,simprocAttr,Option.isSome_none,Option.getD_none]
  try rfl
 |some c=>
  have hcs:=ass hz hc;simp only [↓wR,zT,simprocAttr,Option.isSome_some,Option.getD_some];rw [cf];refine ⟨fun ⟨h1,e1⟩=>?_,fun ⟨h1,e1⟩=>?_⟩
  ·rw [if_pos e1];simp only [↓wR,zT,simprocAttr,h1]
   try rfl
  rw [if_neg e1];simp only [↓wR,zT,simprocAttr,h1];rw [cf];refine ⟨fun ⟨h2,e2⟩=>?_,fun ⟨h2,e2⟩=>?_⟩
  ·rw [if_pos e2];simp only [↓wR,zT,simprocAttr,h2]
   try rfl
  rw [if_neg e2];simp only [↓wR,zT,simprocAttr,h2];rw [dh];refine ⟨fun ⟨h3,e3⟩=>?_,fun ⟨h3,e3⟩=>?_⟩
  ·rw [if_neg e3];simp only [↓wR,zT,simprocAttr,h3]
   try rfl
  rw [if_pos zO,aq8];simp only [↓wR,zT,simprocAttr,h3,bz,xu,iP,hcs]
  try rfl
noncomputable def C2 (x:ay × ba × Unit):Option AV:=if bo x.1/\db x.2.1 then some ((r1 bk).E true ((!nc x.1 x.2.1))) else none
theorem aal (x:ay × ba × Unit) (r:AV) (h:C2 x=some r):bj PP 144 ((aC bf (aC ag a0)).E x) r:=by obtain ⟨hc,rfl⟩:=zI h;exact az (ar.cons (aq aen) (ar.cons (aq um) (ar.nil PP))) Tryz.func144 zK zK zK zL (r1 bk) true ((!nc x.1 x.2.1)) (aj0 x.1 x.2.1 hc.1 hc.2)
noncomputable abbrev l0:zE:=(144,true,cx (aC bf (aC ag a0)) C2)
def allI (p:Nat->ba->Bool):Nat->List ba->Bool
 |_,[]=>true
 |i,s::r=>p i s && allI p (i+1) r
theorem aD0 {p:Nat->ba->Bool} {l:List ba} {i:Nat} {c:ba} (h:l.drop i=c::l.drop (i+1)) (k:Nat):allI p k (l.drop i)=(p k c && allI p (k+1) (l.drop (i+1))):=by rw [h];rfl
noncomputable def okZ (z:ay):Bool:=z.ak.all fun s=>s.data.all fun d=>decide (ek s.type d=0)
theorem anm (z:ay) (hz:bo z) (aB:okZ z=true):wl PP [aHi,Pw] 0 (Tryz.f105.body.getD .skip) (c9 PP Tryz.f105.results.toList (fun r st=>(r1 bk).get true st.h r=some (allI (il z) 0 z.ak))) (cp 0 [bf.val false z]) (bg []):=by
 have hlen:=hz.len;unfold Tryz.f105;simp only [dy];simp only [↓wR,zT,simprocAttr];refine dq [1,3] (fun (i:Nat)=>[.ptr 0 0,zi i]) (fun _=>[(zZ z)]) (fun i=>i<=z.ak.length/\allI (il z) 0 z.ak=allI (il z) i (z.ak.drop i)) (fun i=>z.ak.length - i) 0 ⟨zzb _,rfl⟩ zS zS ?_;rintro i ⟨hi,hx⟩;simp only [↓wR,zT,simprocAttr];rw [bh];refine ⟨fun h=>?_,fun h=>?_⟩
 ·obtain ⟨c,hc,aF,hlt⟩:=du (zp h);have hcs:=hz.ak.mem c (zm hc);have hce:=zz8.1 (zz8.1 aB c (zm hc));have kI:=hcs.data.len;rw [aD0 aF] at hx;simp only [↓wR,zT,simprocAttr,h,hc];refine ⟨zK,.inl ?_⟩;rw [bh];refine ⟨fun h1=>?_,fun h1=>?_⟩
  ·cases i with
   |zero=>omega
   |succ j=>
   obtain ⟨a,ha⟩:∃ a,z.ak[j]? = some a:=⟨_,zh zO⟩;have has:=hz.set a (zm ha)
   repeat (first|simp only [↓wR,zT,simprocAttr,h1,ha,hc,Int.natCast_add,Int.add_sub_cancel,Hs,has,hcs]|simp (disch:=omega) only [zW])
   refine ⟨zK,?_⟩;rw [cw];refine ⟨fun h2=>?_,fun h2=>?_⟩
   ·simp only [zyd,decide_eq_false_iff_not] at h2;have hv:il z (j+1) c=false:=by simp only [il,ha];simp;omega
    rw [hv,Bool.false_and] at hx;rw [hx];simp only [↓wR,zT,simprocAttr,h2]
    try rfl
   ·simp only [zyh,decide_eq_true_eq] at h2;have hv:il z (j+1) c=re c.type c.data:=by simp only [il,ha];simp [h2]
    rw [hv] at hx;simp only [↓wR,zT,simprocAttr,h2,decide_true,Bool.not_true];refine dq [1,3,4,5] (fun (k:Nat)=>[.ptr 0 0,zi ((j:Int)+1),.ptr 1 0,zi ((k:Int)+1)]) (fun _=>[(zZ z),(zY c)]) (fun k=>(k=0\/k+1<=c.data.length)/\re c.type c.data=re c.type (c.data.drop k)) (fun k=>c.data.length - k) 0 ⟨.inl rfl,rfl⟩ zS zS ?_;rintro k ⟨hk,hy⟩;simp only [↓wR,zT,simprocAttr];rw [bh];refine ⟨fun h5=>?_,fun h5=>?_⟩
    ·obtain ⟨a,ha⟩:∃ a,c.data[k]? = some a:=⟨_,zh zO⟩;obtain ⟨b,hb⟩:∃ b,c.data[k+1]? = some b:=⟨_,zh zO⟩;have has:=hcs.data.mem a (zm ha);have aX:=hcs.data.mem b (zm hb);have sG:=of_decide_eq_true (hce a (zm ha));have gQ:=of_decide_eq_true (hce b (zm hb));rw [Je _ ha hb] at hy;simp only [↓wR,zT,simprocAttr,h5];refine ⟨zK,.inl ?_⟩
     repeat (first|simp only [↓wR,zT,simprocAttr,ha,hb,Int.add_sub_cancel,ud,B7,n6,has,aX,sG,gQ]|simp (disch:=omega) only [zW])
     rw [if_neg (by simp)];refine ⟨zK,?_⟩;rw [bh];refine ⟨fun h6=>?_,fun h6=>?_⟩
     ·rw [if_pos h6] at hy;rw [hy,Bool.false_and] at hx;rw [hx];simp only [↓wR,zT,simprocAttr,h6]
      try rfl
     ·rw [if_neg h6] at hy
      repeat (first|simp only [↓wR,zT,simprocAttr,h6]|simp (disch:=omega) only [zW])
      exact ⟨k+1,⟨.inr zO,hy⟩,zO,zF⟩
    ·rw [G6 _ zO] at hy;rw [hy,Bool.true_and] at hx;simp only [↓wR,zT,simprocAttr,h5];refine ⟨j+1+1,⟨hlt,hx⟩,zO,zF⟩
  ·have fC:i=0:=zO;have hv:il z i c=re c.type c.data:=by rw [fC];simp [il]
   rw [hv] at hx;simp only [↓wR,zT,simprocAttr,h1];refine ⟨zK,?_⟩;refine dq [1,3,4,5] (fun (k:Nat)=>[.ptr 0 0,zi i,.ptr 1 0,zi ((k:Int)+1)]) (fun _=>[(zZ z),(zY c)]) (fun k=>(k=0\/k+1<=c.data.length)/\re c.type c.data=re c.type (c.data.drop k)) (fun k=>c.data.length - k) 0 ⟨.inl rfl,rfl⟩ zS zS ?_;rintro k ⟨hk,hy⟩;simp only [↓wR,zT,simprocAttr];rw [bh];refine ⟨fun h5=>?_,fun h5=>?_⟩
   ·obtain ⟨a,ha⟩:∃ a,c.data[k]? = some a:=⟨_,zh zO⟩;obtain ⟨b,hb⟩:∃ b,c.data[k+1]? = some b:=⟨_,zh zO⟩;have has:=hcs.data.mem a (zm ha);have aX:=hcs.data.mem b (zm hb);have sG:=of_decide_eq_true (hce a (zm ha));have gQ:=of_decide_eq_true (hce b (zm hb));rw [Je _ ha hb] at hy;simp only [↓wR,zT,simprocAttr,h5];refine ⟨zK,.inl ?_⟩
    repeat (first|simp only [↓wR,zT,simprocAttr,ha,hb,Int.add_sub_cancel,ud,B7,n6,has,aX,sG,gQ]|simp (disch:=omega) only [zW])
    rw [if_neg (by simp)];refine ⟨zK,?_⟩;rw [bh];refine ⟨fun h6=>?_,fun h6=>?_⟩
    ·rw [if_pos h6] at hy;rw [hy,Bool.false_and] at hx;rw [hx];simp only [↓wR,zT,simprocAttr,h6]
     try rfl
    ·rw [if_neg h6] at hy
     repeat (first|simp only [↓wR,zT,simprocAttr,h6]|simp (disch:=omega) only [zW])
     exact ⟨k+1,⟨.inr zO,hy⟩,zO,zF⟩
   ·rw [G6 _ zO] at hy;rw [hy,Bool.true_and] at hx;simp only [↓wR,zT,simprocAttr,h5];refine ⟨i+1,⟨hlt,hx⟩,zO,zF⟩
 ·rw [eu (zq h)] at hx;rw [hx];simp only [↓wR,zT,simprocAttr,h]
  try rfl
noncomputable def Fs (x:ay × Unit):Option AV:=if bo x.1/\okZ x.1=true then some ((r1 bk).E true (allI (il x.1) 0 x.1.ak)) else none
theorem aff (x:ay × Unit) (r:AV) (h:Fs x=some r):bj PP 105 ((aC bf a0).E x) r:=by obtain ⟨hc,rfl⟩:=zI h;exact az (ar.cons (aq anh) (ar.cons (aq G0) (ar.nil PP))) Tryz.func105 zK zK zK zL (r1 bk) true (allI (il x.1) 0 x.1.ak) (anm x.1 hc.1 hc.2)
noncomputable abbrev az3:zE:=(105,true,cx (aC bf a0) Fs)
noncomputable def qb:Code:=match Tryz.f106.body.getD .skip with
 |.seq _ (.seq _ (.seq _ (.seq _ (.seq (.seq _ (.block _ (.loop b))) _))))=>b
 |_=>.skip
noncomputable def nn:Code:=match qb with
 |.seq _ (.seq (.block _ b) _)=>b
 |_=>.skip
noncomputable def avs:Code:=mz 4 (Tryz.f106.body.getD .skip)
noncomputable def aa3:Code:=match Tryz.f106.body.getD .skip with
 |.seq _ (.seq _ (.seq _ (.seq _ (.seq (.seq a _) _))))=>a
 |_=>.skip
theorem awk (z:ay):wl PP [po,m8,se,l0] 0 avs (tq (fun L st=>wl PP [po,m8,se,l0] 0 aa3 (xi [1,3,4,5,6] [.ptr 0 0,.sl 1 0 7 1,zi 0,.sc (.bool false),zi 0] [(zZ z),some (.row [.sc (.bool false),.sc (.bool false),.sc (.bool false),.sc (.bool false),.sc (.bool false),.sc (.bool false),.sc (.bool false)] 0 0 4)]) L st) Mn) (cp 0 [bf.val false z]) (bg []):=by unfold avs aa3 Tryz.f106;simp only [dy];simp only [↓wR,zT,simprocAttr,kc,gx,ly,fw]
noncomputable def abc:Code:=mz 1 (fm 2 nn)
noncomputable def aag:Code:=mz 1 (fm 3 nn)
noncomputable def aay:Code:=mz 1 (fm 4 nn)
noncomputable def aa2:Code:=mz 1 (fm 5 nn)
noncomputable def aa7:Code:=mz 1 (fm 6 nn)
noncomputable def abi:Code:=mz 1 (fm 7 nn)
noncomputable def abv:Code:=fm 8 nn
noncomputable def aqf:Code:=mz 2 nn
theorem azm (z:ay) (s:ba) (i m:Nat) (p a b c d e f:Bool) (hz:bo z) (hs:db s) (hi:z.ak[i]? = some s):wl PP [po,m8,se,l0] 0 aqf (xi [1,3,4,5,6,7,8] [.ptr 0 0,.sl 1 0 7 1,zi m,.sc (.bool p),zi i,.ptr 2 0,.sc (.bool (dt s.owner z.origin))] [(zZ z),some (.row [.sc (.bool a),.sc (.bool b),.sc (.bool c),.sc (.bool false),.sc (.bool d),.sc (.bool e),.sc (.bool f)] 0 0 4),(zY s)]) (jn [1,3,4,5,6] [.ptr 0 0,.sl 1 0 7 1,zi m,.sc (.bool p),zi i]) (bg [(zZ z),some (.row [.sc (.bool a),.sc (.bool b),.sc (.bool c),.sc (.bool false),.sc (.bool d),.sc (.bool e),.sc (.bool f)] 0 0 4)]):=by have hlen:=hz.len;have hlt:=(zg.1 hi).1;unfold aqf nn qb Tryz.f106;simp only [↓wR,zT,simprocAttr,kc,gx,fw,hi,xu,hs.owner,hz.origin]
theorem azr (z:ay) (s:ba) (i m:Nat) (p t a b c d e f:Bool) (a':Bool) (hz:bo z) (hs:db s) (hq:a'=(a || !kh s)):wl PP [po,m8,se,l0] 0 abc (xi [1,3,4,5,6,7,8] [.ptr 0 0,.sl 1 0 7 1,zi m,.sc (.bool p),zi i,.ptr 2 0,.sc (.bool t)] [(zZ z),some (.row [.sc (.bool a'),.sc (.bool b),.sc (.bool c),.sc (.bool false),.sc (.bool d),.sc (.bool e),.sc (.bool f)] 0 0 4),(zY s)]) (jn [1,3,4,5,6,7,8] [.ptr 0 0,.sl 1 0 7 1,zi m,.sc (.bool p),zi i,.ptr 2 0,.sc (.bool t)]) (bg [(zZ z),some (.row [.sc (.bool a),.sc (.bool b),.sc (.bool c),.sc (.bool false),.sc (.bool d),.sc (.bool e),.sc (.bool f)] 0 0 4),(zY s)]):=by
 unfold abc nn qb Tryz.f106;simp only [↓wR,zT,simprocAttr,ij,ig,gx,fw];rw [dh];refine ⟨fun ⟨h1,e1⟩=>?_,fun ⟨h1,e1⟩=>?_⟩
 ·have h0:a'=true:=by rw [hq];simp [kh,e1]
  subst h0;simp only [↓wR,zT,simprocAttr,h1,fw]
 simp only [↓wR,zT,simprocAttr,h1];rw [cf];refine ⟨fun ⟨h2,e2⟩=>?_,fun ⟨h2,e2⟩=>?_⟩
 ·have h0:a'=true:=by rw [hq];simp [kh,e1,e2]
  subst h0;simp only [↓wR,zT,simprocAttr,h2,fw]
 simp only [↓wR,zT,simprocAttr,h2];rw [cf];refine ⟨fun ⟨h3,e3⟩=>?_,fun ⟨h3,e3⟩=>?_⟩
 ·have h0:a'=true:=by rw [hq];simp [kh,e1,e3]
  subst h0;simp only [↓wR,zT,simprocAttr,h3,fw]
 simp only [↓wR,zT,simprocAttr,h3];rw [cf];refine ⟨fun ⟨h4,e4⟩=>?_,fun ⟨h4,e4⟩=>?_⟩
 ·have h0:a'=true:=by rw [hq];simp [kh,e1,e4]
  subst h0;simp only [↓wR,zT,simprocAttr,h4,fw]
 ·have h0:a'=a:=by rw [hq];unfold kh;rw [if_neg zO,if_neg e2,if_neg e3,zq e4];simp
  subst h0;simp only [↓wR,zT,simprocAttr,h4,fw]
theorem aCk (z:ay) (s:ba) (i m:Nat) (p t a b c d e f:Bool) (b':Bool) (hz:bo z) (hs:db s) (hq:b'=(b || !dj s.owner z.origin)):wl PP [po,m8,se,l0] 0 aag (xi [1,3,4,5,6,7,8] [.ptr 0 0,.sl 1 0 7 1,zi m,.sc (.bool p),zi i,.ptr 2 0,.sc (.bool t)] [(zZ z),some (.row [.sc (.bool a),.sc (.bool b'),.sc (.bool c),.sc (.bool false),.sc (.bool d),.sc (.bool e),.sc (.bool f)] 0 0 4),(zY s)]) (jn [1,3,4,5,6,7,8] [.ptr 0 0,.sl 1 0 7 1,zi m,.sc (.bool p),zi i,.ptr 2 0,.sc (.bool t)]) (bg [(zZ z),some (.row [.sc (.bool a),.sc (.bool b),.sc (.bool c),.sc (.bool false),.sc (.bool d),.sc (.bool e),.sc (.bool f)] 0 0 4),(zY s)]):=by
 unfold aag nn qb Tryz.f106;simp only [↓wR,zT,simprocAttr,ij,ig,gx,fw,rp,hs.owner,hz.origin];rw [cw];refine ⟨fun h1=>?_,fun h1=>?_⟩
 ·have h0:b'=true:=by rw [hq,h1,Bool.or_true]
  subst h0;simp only [↓wR,zT,simprocAttr,h1,fw]
 ·have h0:b'=b:=by rw [hq,h1,Bool.or_false]
  subst h0;simp only [↓wR,zT,simprocAttr,h1,fw]
theorem aA9 (z:ay) (s:ba) (i m:Nat) (p t a b c d e f:Bool) (c':Bool) (m':Nat) (hz:bo z) (hs:db s) (hm:m<=16777216) (eG:m'=m+if (s.type.toNat:Int)=6 then 1 else 0) (hq:c'=(c || (decide ((s.type.toNat:Int)=6) && (!t || decide ((s.data.length:Int)≠1))))):wl PP [po,m8,se,l0] 0 aay (xi [1,3,4,5,6,7,8] [.ptr 0 0,.sl 1 0 7 1,zi m',.sc (.bool p),zi i,.ptr 2 0,.sc (.bool t)] [(zZ z),some (.row [.sc (.bool a),.sc (.bool b),.sc (.bool c'),.sc (.bool false),.sc (.bool d),.sc (.bool e),.sc (.bool f)] 0 0 4),(zY s)]) (jn [1,3,4,5,6,7,8] [.ptr 0 0,.sl 1 0 7 1,zi m,.sc (.bool p),zi i,.ptr 2 0,.sc (.bool t)]) (bg [(zZ z),some (.row [.sc (.bool a),.sc (.bool b),.sc (.bool c),.sc (.bool false),.sc (.bool d),.sc (.bool e),.sc (.bool f)] 0 0 4),(zY s)]):=by
 unfold aay nn qb Tryz.f106;simp only [↓wR,zT,simprocAttr,ij,ig,gx,fw];rw [cf];refine ⟨fun ⟨h1,e1⟩=>?_,fun ⟨h1,e1⟩=>?_⟩
 ·rw [if_pos e1] at eG;rw [zp e1,Bool.true_and] at hq;subst eG
  repeat (first|simp only [↓wR,zT,simprocAttr,h1]|simp (disch:=omega) only [zW])
  cases t
  ·have h0:c'=true:=by rw [hq];simp
   subst h0
   repeat (first|simp only [↓wR,zT,simprocAttr,fw]|simp (disch:=omega) only [zW])
   exact zF
  repeat (first|simp only [↓wR,zT,simprocAttr]|simp (disch:=omega) only [zW])
  rw [dh];refine ⟨fun ⟨h2,e2⟩=>?_,fun ⟨h2,e2⟩=>?_⟩
  ·have h0:c'=true:=by rw [hq,zp e2];simp
   subst h0
   repeat (first|simp only [↓wR,zT,simprocAttr,h2,fw]|simp (disch:=omega) only [zW])
   exact zF
  ·have h0:c'=c:=by rw [hq,zq zO];simp
   subst h0
   repeat (first|simp only [↓wR,zT,simprocAttr,h2,fw]|simp (disch:=omega) only [zW])
   exact zF
 ·rw [if_neg e1] at eG;rw [zq e1,Bool.false_and,Bool.or_false] at hq;subst eG;subst hq;simp only [↓wR,zT,simprocAttr,h1,fw]
theorem aA4 (z:ay) (s:ba) (i m:Nat) (p t a b c d e f:Bool) (p':Bool) (hz:bo z) (hs:db s) (hq:p'=(p || (decide ((s.type.toNat:Int)=2) && t))):wl PP [po,m8,se,l0] 0 aa2 (xi [1,3,4,5,6,7,8] [.ptr 0 0,.sl 1 0 7 1,zi m,.sc (.bool p'),zi i,.ptr 2 0,.sc (.bool t)] [(zZ z),some (.row [.sc (.bool a),.sc (.bool b),.sc (.bool c),.sc (.bool false),.sc (.bool d),.sc (.bool e),.sc (.bool f)] 0 0 4),(zY s)]) (jn [1,3,4,5,6,7,8] [.ptr 0 0,.sl 1 0 7 1,zi m,.sc (.bool p),zi i,.ptr 2 0,.sc (.bool t)]) (bg [(zZ z),some (.row [.sc (.bool a),.sc (.bool b),.sc (.bool c),.sc (.bool false),.sc (.bool d),.sc (.bool e),.sc (.bool f)] 0 0 4),(zY s)]):=by
 unfold aa2 nn qb Tryz.f106;simp only [↓wR,zT,simprocAttr,ij,ig,gx,fw];rw [cf];refine ⟨fun ⟨h1,e1⟩=>?_,fun ⟨h1,e1⟩=>?_⟩
 ·rw [zp e1,Bool.true_and] at hq;simp only [↓wR,zT,simprocAttr,h1];cases t
  ·have h0:p'=p:=by rw [hq];simp
   subst h0;simp only [↓wR,zT,simprocAttr,fw]
  ·have h0:p'=true:=by rw [hq];simp
   subst h0;simp only [↓wR,zT,simprocAttr,fw]
 ·rw [zq e1,Bool.false_and,Bool.or_false] at hq;subst hq;simp only [↓wR,zT,simprocAttr,h1,fw]
theorem aBf (z:ay) (s:ba) (i m:Nat) (p t a b c d e f:Bool) (d':Bool) (hz:bo z) (hs:db s) (hq:d'=(d || ou z s)):wl PP [po,m8,se,l0] 0 aa7 (xi [1,3,4,5,6,7,8] [.ptr 0 0,.sl 1 0 7 1,zi m,.sc (.bool p),zi i,.ptr 2 0,.sc (.bool t)] [(zZ z),some (.row [.sc (.bool a),.sc (.bool b),.sc (.bool c),.sc (.bool false),.sc (.bool d'),.sc (.bool e),.sc (.bool f)] 0 0 4),(zY s)]) (jn [1,3,4,5,6,7,8] [.ptr 0 0,.sl 1 0 7 1,zi m,.sc (.bool p),zi i,.ptr 2 0,.sc (.bool t)]) (bg [(zZ z),some (.row [.sc (.bool a),.sc (.bool b),.sc (.bool c),.sc (.bool false),.sc (.bool d),.sc (.bool e),.sc (.bool f)] 0 0 4),(zY s)]):=by
 unfold aa7 nn qb Tryz.f106;simp only [↓wR,zT,simprocAttr,ij,ig,gx,fw,Ms,hs,hz];rw [cw];refine ⟨fun h1=>?_,fun h1=>?_⟩
 ·have h0:d'=true:=by rw [hq,h1,Bool.or_true]
  subst h0;simp only [↓wR,zT,simprocAttr,h1,fw]
 ·have h0:d'=d:=by rw [hq,h1,Bool.or_false]
  subst h0;simp only [↓wR,zT,simprocAttr,h1,fw]
theorem aB9 (z:ay) (s:ba) (i m:Nat) (p t a b c d e f:Bool) (e':Bool) (hz:bo z) (hs:db s) (hq:e'=(e || !kg s)):wl PP [po,m8,se,l0] 0 abi (xi [1,3,4,5,6,7,8] [.ptr 0 0,.sl 1 0 7 1,zi m,.sc (.bool p),zi i,.ptr 2 0,.sc (.bool t)] [(zZ z),some (.row [.sc (.bool a),.sc (.bool b),.sc (.bool c),.sc (.bool false),.sc (.bool d),.sc (.bool e'),.sc (.bool f)] 0 0 4),(zY s)]) (jn [1,3,4,5,6,7,8] [.ptr 0 0,.sl 1 0 7 1,zi m,.sc (.bool p),zi i,.ptr 2 0,.sc (.bool t)]) (bg [(zZ z),some (.row [.sc (.bool a),.sc (.bool b),.sc (.bool c),.sc (.bool false),.sc (.bool d),.sc (.bool e),.sc (.bool f)] 0 0 4),(zY s)]):=by
 unfold abi nn qb Tryz.f106;have dT:=ml hs.owner;simp only [↓wR,zT,simprocAttr,ij,ig,gx,fw];rw [cf];refine ⟨fun ⟨h1,e1⟩=>?_,fun ⟨h1,e1⟩=>?_⟩
 ·simp only [↓wR,zT,simprocAttr,h1];rw [bh];refine ⟨fun h2=>?_,fun h2=>?_⟩
  ·obtain ⟨c0,hc0⟩:∃ c0,s.owner[0]? = some c0:=⟨_,zh zO⟩;simp only [↓wR,zT,simprocAttr,h2,hc0];rw [cw];refine ⟨fun h3=>?_,fun h3=>?_⟩
   ·have h0:e'=true:=by rw [hq];unfold kg;rw [if_neg (by simpa using e1),hc0];show (e || !!decide (c0=pz))=true;rw [show decide (c0=pz)=true from h3];simp
    subst h0;simp only [↓wR,zT,simprocAttr,h3,fw]
   ·have h0:e'=e:=by rw [hq];unfold kg;rw [if_neg (by simpa using e1),hc0];show (e || !!decide (c0=pz))=e;rw [show decide (c0=pz)=false from h3];simp
    subst h0;simp only [↓wR,zT,simprocAttr,h3,fw]
  ·have h0:e'=e:=by rw [hq];unfold kg;rw [if_neg (by simpa using e1),zzy zO];simp
   subst h0;simp only [↓wR,zT,simprocAttr,h2,fw]
 ·have h0:e'=e:=by rw [hq];unfold kg;rw [if_pos e1];simp
  subst h0;simp only [↓wR,zT,simprocAttr,h1,fw]
theorem aBk (z:ay) (s:ba) (i m:Nat) (p t a b c d e f:Bool) (f':Bool) (hz:bo z) (hs:db s) (hq:f'=(f || !nc z s)):wl PP [po,m8,se,l0] 0 abv (xi [1,3,4,5,6,7,8] [.ptr 0 0,.sl 1 0 7 1,zi m,.sc (.bool p),zi i,.ptr 2 0,.sc (.bool t)] [(zZ z),some (.row [.sc (.bool a),.sc (.bool b),.sc (.bool c),.sc (.bool false),.sc (.bool d),.sc (.bool e),.sc (.bool f')] 0 0 4),(zY s)]) (jn [1,3,4,5,6,7,8] [.ptr 0 0,.sl 1 0 7 1,zi m,.sc (.bool p),zi i,.ptr 2 0,.sc (.bool t)]) (bg [(zZ z),some (.row [.sc (.bool a),.sc (.bool b),.sc (.bool c),.sc (.bool false),.sc (.bool d),.sc (.bool e),.sc (.bool f)] 0 0 4),(zY s)]):=by
 unfold abv nn qb Tryz.f106;simp only [↓wR,zT,simprocAttr,ij,ig,jk,jl,gx,fw,C2,hs,hz];rw [cw];refine ⟨fun h1=>?_,fun h1=>?_⟩
 ·have h0:f'=true:=by rw [hq,h1,Bool.or_true]
  subst h0;simp only [↓wR,zT,simprocAttr,h1,fw]
 ·have h0:f'=f:=by rw [hq,h1,Bool.or_false]
  subst h0;simp only [↓wR,zT,simprocAttr,h1,fw]
def anyS (q:ba->Bool) (z:ay) (i:Nat):Bool:=(z.ak.take i).any q
theorem Ez {q:ba->Bool} {z:ay} {i:Nat} {s:ba} (h:z.ak[i]? = some s):anyS q z (i+1)=(anyS q z i || q s):=by obtain ⟨hi,rfl⟩:=zg.1 h;unfold anyS;rw [zz5 hi,List.any_append];simp
def yk (z:ay) (i:Nat):Nat:=((z.ak.take i).filter fun s=>decide ((s.type.toNat:Int)=6)).length
theorem aE2 {z:ay} {i:Nat} {s:ba} (h:z.ak[i]? = some s):yk z (i+1)=yk z i+if (s.type.toNat:Int)=6 then 1 else 0:=by
 obtain ⟨hi,rfl⟩:=zg.1 h;unfold yk;rw [zz5 hi,List.filter_append,za,List.filter_cons,List.filter_nil]
 congr 1
 split<;>split<;>simp_all
theorem aFe (z:ay) (i:Nat):yk z i<=z.ak.length:=by unfold yk;exact zzu (List.length_filter_le _ _) (by rw [zzl];omega)
def I5 (s:ba):Bool:=!kh s
def Is (z:ay) (s:ba):Bool:=!dj s.owner z.origin
def zz (z:ay) (s:ba):Bool:=decide ((s.type.toNat:Int)=6) && (!dt s.owner z.origin || decide ((s.data.length:Int)≠1))
def xz (z:ay) (s:ba):Bool:=decide ((s.type.toNat:Int)=2) && dt s.owner z.origin
def Iw (s:ba):Bool:=!kg s
def Ic (z:ay) (s:ba):Bool:=!nc z s
noncomputable def Pk:Code:=match qb with
 |.seq a _=>a
 |_=>.skip
noncomputable def S1:Code:=match qb with
 |.seq _ (.seq _ b)=>b
 |_=>.skip
theorem U4:qb = .seq Pk (.seq (.block 1 nn) S1):=zK
theorem mo:ar PP [po,m8,se,l0]:=ar.cons (aq um) (ar.cons (aq ye) (ar.cons (aq an5) (ar.cons (aq aal) (ar.nil PP))))
theorem aAv (z:ay) (i m:Nat) (p a b c d e f:Bool) (hi:i<z.ak.length):wl PP [po,m8,se,l0] 0 Pk (xi [1,3,4,5,6] [.ptr 0 0,.sl 1 0 7 1,zi m,.sc (.bool p),zi i] [(zZ z),some (.row [.sc (.bool a),.sc (.bool b),.sc (.bool c),.sc (.bool false),.sc (.bool d),.sc (.bool e),.sc (.bool f)] 0 0 4)]) (jn [1,3,4,5,6] [.ptr 0 0,.sl 1 0 7 1,zi m,.sc (.bool p),zi i]) (bg [(zZ z),some (.row [.sc (.bool a),.sc (.bool b),.sc (.bool c),.sc (.bool false),.sc (.bool d),.sc (.bool e),.sc (.bool f)] 0 0 4)]):=by have h:decide ((i:Int)<z.ak.length)=true:=zp zO;unfold Pk qb Tryz.f106;simp only [↓wR,zT,simprocAttr,fw,h]
theorem aBd (z:ay) (i m:Nat) (p a b c d e f:Bool) (hi:¬ i<z.ak.length):wl PP [po,m8,se,l0] 0 Pk (ati 0 [3,4,5] [.sl 0 0 7 1,zi m,.sc (.bool p)] [some (.row [.sc (.bool a),.sc (.bool b),.sc (.bool c),.sc (.bool false),.sc (.bool d),.sc (.bool e),.sc (.bool f)] 0 0 4)]) (jn [1,3,4,5,6] [.ptr 0 0,.sl 1 0 7 1,zi m,.sc (.bool p),zi i]) (bg [(zZ z),some (.row [.sc (.bool a),.sc (.bool b),.sc (.bool c),.sc (.bool false),.sc (.bool d),.sc (.bool e),.sc (.bool f)] 0 0 4)]):=by have h:decide ((i:Int)<z.ak.length)=false:=zq zO;unfold Pk qb Tryz.f106;simp only [↓wR,zT,simprocAttr,aFt,h]
theorem aBx (z:ay) (s:ba) (i m:Nat) (p t a b c d e f:Bool) (hi:i<=16777216):wl PP [po,m8,se,l0] 0 S1 (xi [1,3,4,5,6] [.ptr 0 0,.sl 1 0 7 1,zi m,.sc (.bool p),zi ((i+1:Nat))] [(zZ z),some (.row [.sc (.bool a),.sc (.bool b),.sc (.bool c),.sc (.bool false),.sc (.bool d),.sc (.bool e),.sc (.bool f)] 0 0 4)]) (jn [1,3,4,5,6,7,8] [.ptr 0 0,.sl 1 0 7 1,zi m,.sc (.bool p),zi i,.ptr 2 0,.sc (.bool t)]) (bg [(zZ z),some (.row [.sc (.bool a),.sc (.bool b),.sc (.bool c),.sc (.bool false),.sc (.bool d),.sc (.bool e),.sc (.bool f)] 0 0 4),(zY s)]):=by
 unfold S1 qb Tryz.f106
 repeat (first|simp only [↓wR,zT,simprocAttr,fw]|simp (disch:=omega) only [zW])
 all_goals first|done|exact zF
theorem akv:fm 2 nn = .seq abc (.seq aag (.seq aay (.seq aa2 (.seq aa7 (.seq abi abv))))):=zK
theorem atp {z:ay} (hz:bo z) {i:Nat} {s:ba} (hi:z.ak[i]? = some s) {Q:QL} (hQ:∀ L st,Go.Vm.jc 0 [1,3,4,5,6] L st=[.ptr 0 0,.sl 1 0 7 1,zi ((yk z (i+1))),.sc (.bool (anyS (xz z) z (i+1))),zi ((i+1))]->gh 0 [1,3,4,5,6] L st=[(zZ z),some (.row [.sc (.bool (anyS I5 z (i+1))),.sc (.bool (anyS (Is z) z (i+1))),.sc (.bool (anyS (zz z) z (i+1))),.sc (.bool false),.sc (.bool (anyS (ou z) z (i+1))),.sc (.bool (anyS Iw z (i+1))),.sc (.bool (anyS (Ic z) z (i+1)))] 0 0 4)]->Q .normal L st):SW PP (Tryz.f106.ntmps:NT) qb Q (jn [1,3,4,5,6] [.ptr 0 0,.sl 1 0 7 1,zi ((yk z (i))),.sc (.bool (anyS (xz z) z (i))),zi ((i))]) (bg [(zZ z),some (.row [.sc (.bool (anyS I5 z (i))),.sc (.bool (anyS (Is z) z (i))),.sc (.bool (anyS (zz z) z (i))),.sc (.bool false),.sc (.bool (anyS (ou z) z (i))),.sc (.bool (anyS Iw z (i))),.sc (.bool (anyS (Ic z) z (i)))] 0 0 4)]):=by
 have hs:=hz.set s (zm hi);have hlt:=(zg.1 hi).1;have hlen:=hz.len;have hm:=aFe z i;rw [U4];refine B5 mo zK [1,3,4,5,6] _ _ zK (aAv z i _ _ _ _ _ _ _ _ hlt) ?_;refine Rs (aix ?_);refine ayj mo zK 1 zK zK (En _ _ _ ?_ _ _ (azm z s i _ _ _ _ _ _ _ _ hz hs hi));intro e L st hq;cases e with
 |ret=>exact hq.elim
 |exit j=>exact hq.elim
 |normal=>
 refine Mg [1,3,4,5,6,7,8] _ _ (by rw [hq.1,hq.2];exact ir.refl _ _ _) ?_;rw [akv];refine B5 mo zK [1,3,4,5,6,7,8] _ _ zK (azr z s i _ _ _ _ _ _ _ _ _ _ hz hs (Ez (q:=I5) hi)) ?_;refine B5 mo zK [1,3,4,5,6,7,8] _ _ zK (aCk z s i _ _ _ _ _ _ _ _ _ _ hz hs (Ez (q:=Is z) hi)) ?_;refine B5 mo zK [1,3,4,5,6,7,8] _ _ zK (aA9 z s i _ _ _ _ _ _ _ _ _ _ _ hz hs zO (aE2 hi) (Ez (q:=zz z) hi)) ?_;refine B5 mo zK [1,3,4,5,6,7,8] _ _ zK (aA4 z s i _ _ _ _ _ _ _ _ _ _ hz hs (Ez (q:=xz z) hi)) ?_;refine B5 mo zK [1,3,4,5,6,7,8] _ _ zK (aBf z s i _ _ _ _ _ _ _ _ _ _ hz hs (Ez (q:=ou z) hi)) ?_;refine B5 mo zK [1,3,4,5,6,7,8] _ _ zK (aB9 z s i _ _ _ _ _ _ _ _ _ _ hz hs (Ez (q:=Iw) hi)) ?_;refine axc mo zK [1,3,4,5,6,7,8] _ _ zK (aBk z s i _ _ _ _ _ _ _ _ _ _ hz hs (Ez (q:=Ic z) hi)) ?_;intro L st e1 e2;show SW PP (Tryz.f106.ntmps:NT) S1 Q L st;exact Mg [1,3,4,5,6,7,8] _ _ (by rw [e1,e2];exact ir.refl _ _ _) (axc mo zK [1,3,4,5,6] _ _ zK (aBx z s i _ _ _ _ _ _ _ _ _ zO) hQ)
theorem asa {z:ay} (hz:bo z) {L:SL} {st:St} (h1:Go.Vm.jc 0 [1,3,4,5,6] L st=[.ptr 0 0,.sl 1 0 7 1,zi ((yk z (0))),.sc (.bool (anyS (xz z) z (0))),zi ((0))]) (h2:gh 0 [1,3,4,5,6] L st=[(zZ z),some (.row [.sc (.bool (anyS I5 z (0))),.sc (.bool (anyS (Is z) z (0))),.sc (.bool (anyS (zz z) z (0))),.sc (.bool false),.sc (.bool (anyS (ou z) z (0))),.sc (.bool (anyS Iw z (0))),.sc (.bool (anyS (Ic z) z (0)))] 0 0 4)]):SW PP (Tryz.f106.ntmps:NT) (.loop qb) (ati 0 [3,4,5] [.sl 0 0 7 1,zi ((yk z (z.ak.length))),.sc (.bool (anyS (xz z) z (z.ak.length)))] [some (.row [.sc (.bool (anyS I5 z (z.ak.length))),.sc (.bool (anyS (Is z) z (z.ak.length))),.sc (.bool (anyS (zz z) z (z.ak.length))),.sc (.bool false),.sc (.bool (anyS (ou z) z (z.ak.length))),.sc (.bool (anyS Iw z (z.ak.length))),.sc (.bool (anyS (Ic z) z (z.ak.length)))] 0 0 4)]) L st:=by
 refine aFl (α:=Nat) [1,3,4,5,6] (fun i=>[.ptr 0 0,.sl 1 0 7 1,zi ((yk z (i))),.sc (.bool (anyS (xz z) z (i))),zi ((i))]) (fun i=>[(zZ z),some (.row [.sc (.bool (anyS I5 z (i))),.sc (.bool (anyS (Is z) z (i))),.sc (.bool (anyS (zz z) z (i))),.sc (.bool false),.sc (.bool (anyS (ou z) z (i))),.sc (.bool (anyS Iw z (i))),.sc (.bool (anyS (Ic z) z (i)))] 0 0 4)]) (fun i=>i<=z.ak.length) (fun i=>z.ak.length - i) 0 (zzb _) (by rw [h1,h2];exact ir.refl _ _ _) ?_;intro i hi;by_cases hlt:i<z.ak.length
 ·exact atp hz (zh hlt) (fun L st e1 e2=>⟨i+1,hlt,zO,e1,e2⟩)
 ·have he:i=z.ak.length:=zO;subst he;rw [U4];refine Rs (K9 ?_ (Zp mo zK zK (aBd z _ _ _ _ _ _ _ _ _ hlt)));intro e L st hq;cases e with
  |normal=>exact hq.elim
  |ret=>exact hq.elim
  |exit j=>exact hq
noncomputable def al2:Code:=fm 5 (Tryz.f106.body.getD .skip)
theorem anx:fm 4 (Tryz.f106.body.getD .skip) = .seq (.seq aa3 (.block 0 (.loop qb))) al2:=zK
noncomputable def akf:Code:=mz 1 (fm 5 (Tryz.f106.body.getD .skip))
noncomputable def ah5:Code:=fm 6 (Tryz.f106.body.getD .skip)
theorem ank:al2 = .seq akf ah5:=zK
theorem aFw (m:Nat) (p a b c d e f c':Bool) (hq:c'=(c || decide ((m:Int)≠1))):wl PP [po,m8,se,l0] 0 akf (xi [3,5] [.sl 0 0 7 1,.sc (.bool p)] [some (.row [.sc (.bool a),.sc (.bool b),.sc (.bool c'),.sc (.bool false),.sc (.bool d),.sc (.bool e),.sc (.bool f)] 0 0 4)]) (jn [3,4,5] [.sl 0 0 7 1,zi m,.sc (.bool p)]) (bg [some (.row [.sc (.bool a),.sc (.bool b),.sc (.bool c),.sc (.bool false),.sc (.bool d),.sc (.bool e),.sc (.bool f)] 0 0 4)]):=by
 unfold akf Tryz.f106;simp only [↓wR,zT,simprocAttr,ij,ig,gx,fw];rw [dh];refine ⟨fun ⟨h1,e1⟩=>?_,fun ⟨h1,e1⟩=>?_⟩
 ·have h0:c'=true:=by rw [hq,zp e1,Bool.or_true]
  subst h0;simp only [↓wR,zT,simprocAttr,h1,fw]
 ·have h0:c'=c:=by rw [hq,zq zO,Bool.or_false]
  subst h0;simp only [↓wR,zT,simprocAttr,h1,fw]
def Lh:List Bool->List Int->Int
 |true::_,e::_=>e
 |false::l,_::r=>Lh l r
 |_,_=>0
theorem aEb (p a b c d e f:Bool):wl PP [po,m8,se,l0] 0 ah5 (c9 PP Tryz.f106.results.toList (fun r st=>(r1 (bb .i64)).get true st.h r=some (Lh [a,b,c,!p,d,e,f] [261,262,263,264,265,266,267]))) (jn [3,5] [.sl 0 0 7 1,.sc (.bool p)]) (bg [some (.row [.sc (.bool a),.sc (.bool b),.sc (.bool c),.sc (.bool false),.sc (.bool d),.sc (.bool e),.sc (.bool f)] 0 0 4)]):=by
 unfold ah5 Tryz.f106;simp only [↓wR,zT,simprocAttr,ij,ig,jk,jl];generalize (!p)=q;refine dq [3,9,10] (fun (k:Nat)=>[.sl 0 0 7 1,.sl 1 0 7 1,zi k]) (fun _=>[some (.row [.sc (.bool a),.sc (.bool b),.sc (.bool c),.sc (.bool q),.sc (.bool d),.sc (.bool e),.sc (.bool f)] 0 0 4),some (.row [zi 261,zi 262,zi 263,zi 264,zi 265,zi 266,zi 267] 0 0 3)]) (fun k=>k<=7/\Lh [a,b,c,q,d,e,f] [261,262,263,264,265,266,267]=Lh ([a,b,c,q,d,e,f].drop k) (List.drop k [261,262,263,264,265,266,267])) (fun k=>7 - k) 0 ⟨by decide,rfl⟩ zS zS ?_;rintro k ⟨hk,hx⟩;rcases (show k=0\/k=1\/k=2\/k=3\/k=4\/k=5\/k=6\/k=7 by omega) with rfl|rfl|rfl|rfl|rfl|rfl|rfl|rfl
 ·simp only [↓wR,zT,simprocAttr];cases a
  ·repeat (first|simp only [↓wR,zT,simprocAttr]|simp (disch:=omega) only [zW])
   exact ⟨1,⟨by decide,hx⟩,by decide,zF⟩
  ·rw [hx];simp only [↓wR,zT,simprocAttr]
   try rfl
 ·simp only [↓wR,zT,simprocAttr];cases b
  ·repeat (first|simp only [↓wR,zT,simprocAttr]|simp (disch:=omega) only [zW])
   exact ⟨2,⟨by decide,hx⟩,by decide,zF⟩
  ·rw [hx];simp only [↓wR,zT,simprocAttr]
   try rfl
 ·simp only [↓wR,zT,simprocAttr];cases c
  ·repeat (first|simp only [↓wR,zT,simprocAttr]|simp (disch:=omega) only [zW])
   exact ⟨3,⟨by decide,hx⟩,by decide,zF⟩
  ·rw [hx];simp only [↓wR,zT,simprocAttr]
   try rfl
 ·simp only [↓wR,zT,simprocAttr];cases q
  ·repeat (first|simp only [↓wR,zT,simprocAttr]|simp (disch:=omega) only [zW])
   exact ⟨4,⟨by decide,hx⟩,by decide,zF⟩
  ·rw [hx];simp only [↓wR,zT,simprocAttr]
   try rfl
 ·simp only [↓wR,zT,simprocAttr];cases d
  ·repeat (first|simp only [↓wR,zT,simprocAttr]|simp (disch:=omega) only [zW])
   exact ⟨5,⟨by decide,hx⟩,by decide,zF⟩
  ·rw [hx];simp only [↓wR,zT,simprocAttr]
   try rfl
 ·simp only [↓wR,zT,simprocAttr];cases e
  ·repeat (first|simp only [↓wR,zT,simprocAttr]|simp (disch:=omega) only [zW])
   exact ⟨6,⟨by decide,hx⟩,by decide,zF⟩
  ·rw [hx];simp only [↓wR,zT,simprocAttr]
   try rfl
 ·simp only [↓wR,zT,simprocAttr];cases f
  ·repeat (first|simp only [↓wR,zT,simprocAttr]|simp (disch:=omega) only [zW])
   exact ⟨7,⟨by decide,hx⟩,by decide,zF⟩
  ·rw [hx];simp only [↓wR,zT,simprocAttr]
   try rfl
 ·rw [hx];simp only [↓wR,zT,simprocAttr]
  try rfl
noncomputable def ak9 (z:ay):List Bool:=[z.ak.any I5,z.ak.any (Is z),z.ak.any (zz z) || decide ((yk z z.ak.length:Int)≠1),!z.ak.any (xz z),z.ak.any (ou z),z.ak.any Iw,z.ak.any (Ic z)]
noncomputable def Fu (z:ay):Int:=Lh (ak9 z) [261,262,263,264,265,266,267]
theorem Bw (q:ba->Bool) (z:ay):anyS q z z.ak.length=z.ak.any q:=by unfold anyS;rw [zz7]
theorem azq (z:ay) (hz:bo z):SW PP (Tryz.f106.ntmps:NT) (Tryz.f106.body.getD .skip) (c9 PP Tryz.f106.results.toList (fun r st=>(r1 (bb .i64)).get true st.h r=some (Fu z))) (cp 0 [bf.val false z]) (bg []):=by
 refine ayj mo zK 3 zK zK (En _ _ _ ?_ _ _ (awk z));intro e L st hq;cases e with
 |ret=>exact hq.elim
 |exit j=>exact hq.elim
 |normal=>
 show SW PP (Tryz.f106.ntmps:NT) (fm 4 (Tryz.f106.body.getD .skip)) _ L st;rw [anx];refine Rs (Rs (K9 ?_ (Zp mo zK zK hq)));intro e L st hq;cases e with
 |ret=>exact hq.elim
 |exit j=>exact hq.elim
 |normal=>
 refine aix (K9 ?_ (asa hz hq.1 hq.2));intro e L st hq;cases e with
 |ret=>exact hq.elim
 |normal=>exact hq.elim
 |exit j=>
 obtain ⟨rfl,e1,e2⟩:=hq;show SW PP (Tryz.f106.ntmps:NT) al2 _ L st;refine Mg [3,4,5] [.sl 0 0 7 1,zi ((yk z (z.ak.length))),.sc (.bool (anyS (xz z) z (z.ak.length)))] [some (.row [.sc (.bool (anyS I5 z (z.ak.length))),.sc (.bool (anyS (Is z) z (z.ak.length))),.sc (.bool (anyS (zz z) z (z.ak.length))),.sc (.bool false),.sc (.bool (anyS (ou z) z (z.ak.length))),.sc (.bool (anyS Iw z (z.ak.length))),.sc (.bool (anyS (Ic z) z (z.ak.length)))] 0 0 4)] (by rw [e1,e2];exact ir.refl _ _ _) ?_;rw [ank];refine B5 mo zK [3,5] _ _ zK (aFw _ _ _ _ _ _ _ _ _ rfl) ?_;have h:=aEb (anyS (xz z) z z.ak.length) (anyS I5 z z.ak.length) (anyS (Is z) z z.ak.length) (anyS (zz z) z z.ak.length || decide ((yk z z.ak.length:Int)≠1)) (anyS (ou z) z z.ak.length) (anyS Iw z z.ak.length) (anyS (Ic z) z z.ak.length);refine Zp mo zK zK ?_;unfold Fu ak9;rw [<- Bw I5,<- Bw (Is z),<- Bw (zz z),<- Bw (xz z),<- Bw (ou z),<- Bw Iw,<- Bw (Ic z)];exact h
noncomputable def Mx (x:ay × Unit):Option AV:=open Classical in if bo x.1 then some ((r1 (bb .i64)).E true (Fu x.1)) else none
theorem ana (x:ay × Unit) (r:AV) (h:Mx x=some r):bj PP 106 ((aC bf a0).E x) r:=by obtain ⟨hc,rfl⟩:=zI h;exact abf (body:=Tryz.f106.body.getD .skip) Tryz.func106 zK zK zL (r1 (bb .i64)) true (Fu x.1) (azq x.1 hc)
noncomputable abbrev aG1:zE:=(106,true,cx (aC bf a0) Mx)
theorem M5:∀ (l:List ba) {e:Int},e≠0->ov l e=e
 | [],_,_=>rfl
 |s::l,e,h=>by rw [ov,if_neg h];exact M5 l h
theorem ac1:∀ {l:List ba},ov l 0=0->∀ s ∈ l,mu s=0
 | [],_,s,hs=>by cases hs
 |a::l,h,s,hs=>by
  rw [ov,if_pos rfl] at h;by_cases h1:mu a=0
  ·rw [h1] at h;rcases zya.1 hs with rfl|hs
   ·exact h1
   ·exact ac1 h s hs
  ·rw [M5 l h1] at h;exact absurd h h1
theorem aHc {z:ay} (h:ov z.ak 0=0):okZ z=true:=by unfold okZ;rw [zz8];intro s hs;rw [zz8];intro d hd;exact zp (M4 (ac1 h s hs) d hd)
noncomputable def Zn (z:ay):Int:=if dk z.origin≠0 then dk z.origin else if 2048<kj z.ak then 3 else if ov z.ak 0≠0 then ov z.ak 0 else if allI (il z) 0 z.ak=false then 260 else Fu z
theorem afj (z:ay) (hz:bo z):wl PP [Pg,ayo,az3,aG1] 0 (Tryz.f59.body.getD .skip) (c9 PP Tryz.f59.results.toList (fun r st=>(r1 (bb .i64)).get true st.h r=some (Zn z))) (cp 0 [bf.val false z]) (bg []):=by
 have hlen:=hz.len;have iP:gu n9 z.ak<=16777216:=by have:=hz;unfold bo Mk at this;omega
 have lZ:=Nw z.ak;unfold Tryz.f59;simp only [dy];simp only [↓wR,zT,simprocAttr,Af,hz.origin.fit];unfold Zn;rw [dh];refine ⟨fun ⟨h1,e1⟩=>?_,fun ⟨h1,e1⟩=>?_⟩
 ·rw [if_pos e1];simp only [↓wR,zT,simprocAttr,h1]
 rw [if_neg zO];simp only [↓wR,zT,simprocAttr,h1];refine dq [1,4,5] (fun (i:Nat)=>[.ptr 0 0,zi ((kj (z.ak.take i))),zi i]) (fun _=>[(zZ z)]) (fun i=>i<=z.ak.length) (fun i=>z.ak.length - i) 0 (zzb _) zS zS ?_;intro i hi;simp only [↓wR,zT,simprocAttr];rw [bh];refine ⟨fun h2=>?_,fun h2=>?_⟩
 ·obtain ⟨c,hc,aF,hlt⟩:=du (zp h2);have hst:=Sb z.ak i c hc;have hcs:=hz.ak.mem c (zm hc);have hcl:=hcs.data.len;have hle:kj (z.ak.take (i+1))<=16777216:=by
   have:=Nw (z.ak.take (i+1));have h3:gu n9 (z.ak.take (i+1))<=gu n9 z.ak:=V8 _ _ _;omega
  repeat (first|simp only [↓wR,zT,simprocAttr,h2,hc]|simp (disch:=omega) only [zW])
  refine ⟨i+1,hlt,zO,?_⟩;rw [hst];exact zF
 have hin:i=z.ak.length:=zO;subst hin;simp only [↓wR,zT,simprocAttr,h2,zz7];rw [bh];refine ⟨fun h3=>?_,fun h3=>?_⟩
 ·rw [if_pos zO];simp only [↓wR,zT,simprocAttr,h3]
 rw [if_neg zO];simp only [↓wR,zT,simprocAttr,h3];refine dq [1,6] (fun (i:Nat)=>[.ptr 0 0,zi i]) (fun _=>[(zZ z)]) (fun i=>i<=z.ak.length/\ov z.ak 0=ov (z.ak.drop i) 0) (fun i=>z.ak.length - i) 0 ⟨zzb _,rfl⟩ zS zS ?_;rintro i ⟨hi,hx⟩;simp only [↓wR,zT,simprocAttr];rw [bh];refine ⟨fun h4=>?_,fun h4=>?_⟩
 ·obtain ⟨c,hc,aF,hlt⟩:=du (zp h4);have hcs:=hz.ak.mem c (zm hc);rw [ala aF,if_pos rfl] at hx;simp only [↓wR,zT,simprocAttr,h4,hc,De,hcs];rw [dh];refine ⟨fun ⟨h5,e5⟩=>?_,fun ⟨h5,e5⟩=>?_⟩
  ·rw [M5 _ e5] at hx;rw [hx,if_pos e5];simp only [↓wR,zT,simprocAttr,h5]
  ·have yR:mu c=0:=zO;rw [yR] at hx
   repeat (first|simp only [↓wR,zT,simprocAttr,h5]|simp (disch:=omega) only [zW])
   exact ⟨i+1,⟨hlt,hx⟩,zO,zF⟩
 ·rw [eu (zq h4)] at hx;have hx':ov z.ak 0=0:=hx;rw [hx',if_neg (by simp)];have aB:=aHc hx';simp only [↓wR,zT,simprocAttr,h4,Fs,hz,aB];cases ho:allI (il z) 0 z.ak with
  |false=>
   rw [if_pos rfl];simp only [↓wR,zT,simprocAttr]
   try rfl
  |true=>
   rw [if_neg (by decide)];simp only [↓wR,zT,simprocAttr,Mx,hz]
   try rfl
def nx (b:Bool) (err e:Int):Int:=if e≠0 then e else if b=true then 0 else err
theorem Wf (b:Bool) (err e:Int):dg b err e=nx b err e:=by unfold dg nx;cases b<;>by_cases h:e=0<;>simp [h]
theorem Bu {err:Int} (he:err≠0) (p:Nat->ba->Bool):∀ (l:List ba) (i:Nat) (e:Int),gz err p i l e=nx (allI p i l) err e
 | [],i,e=>by rw [gz,allI,nx];by_cases h:e=0<;>simp [h]
 |s::l,i,e=>by
  rw [gz,allI];by_cases h:e=0
  ·subst h;rw [if_neg (by simp),Bu he p l (i+1),Wf];unfold nx;cases p i s<;>simp [he]
  ·rw [if_pos h];unfold nx;rw [if_pos h]
theorem C5 (q:ba->Bool):∀ (l:List ba) (i:Nat),allI (fun _ s=>q s) i l=l.all q
 | [],_=>rfl
 |s::l,i=>by rw [allI,C5 q l,List.all_cons]
theorem Yc {i:Nat} {n:Name}:∀ (l:List ba) (k:Nat),i<k->wc i n k l=l.any (fun s=>dt s.owner n)
 | [],_,_=>rfl
 |o::l,k,h=>by rw [wc,Yc l (k+1) zO,zp zO,Bool.true_and,List.any_cons]
theorem any_filter {q:ba->Bool} (l:List ba):l.any q=decide (0<(l.filter q).length):=by
 induction l with
 |nil=>rfl
 |cons a l ih=>rw [List.any_cons,List.filter_cons];cases q a<;>simp [ih]
theorem ajc {n:Name}:∀ (l:List ba) (j k:Nat) {s:ba},l[j]? = some s->dt s.owner n=true->wc (k+j) n k l=decide (1<(l.filter (fun s=>dt s.owner n)).length)
 | [],j,k,s,h,_=>by simp at h
 |o::l,0,k,s,h,hs=>by rw [List.getElem?_cons_zero] at h;cases h;rw [wc,zq (by simp),Bool.false_and,Bool.false_or,Yc l (k+1) zO,any_filter,List.filter_cons,if_pos hs,List.length_cons,decide_eq_decide];omega
 |o::l,j+1,k,s,h,hs=>by
  rw [List.getElem?_cons_succ] at h;have ih:=ajc l j (k+1) h hs;rw [show k+1+j=k+(j+1) by omega] at ih;rw [wc,ih,zp zO,Bool.true_and,List.filter_cons];have hp : 0<(l.filter (fun s=>dt s.owner n)).length:=List.length_pos_of_mem (List.mem_filter.2 ⟨zm h,hs⟩);cases ho:dt o.owner n
  ·simp
  ·rw [if_pos rfl,List.length_cons,Bool.true_or,zp zO]
theorem Xk (n:Name):dt n n=true:=by unfold dt;exact zp rfl
theorem aou {z:ay} {i:Nat} {s:ba} (h:z.ak[i]? = some s):kb z i s = !ou z s:=by
 unfold kb ou fl;have ho:=ajc z.ak i 0 h (Xk s.owner);rw [Nat.zero_add] at ho;rw [ho];by_cases h1:(s.type.toNat:Int)=5
 ·rw [if_neg (by simpa using h1),zp h1,Bool.true_and];by_cases h2:(s.data.length:Int)=1
  ·simp only [h2,ne_eq,not_true_eq_false,decide_false,Bool.false_or,if_false];cases dt s.owner z.origin
   ·rw [if_neg (by simp),Bool.false_or]
    congr 1
    rw [decide_eq_decide];omega
   ·rw [if_pos rfl,Bool.true_or];rfl
  ·rw [if_pos h2,zp h2,Bool.true_or];rfl
 ·rw [if_pos h1,zq h1,Bool.false_and];rfl
theorem ai8 {p:Nat->ba->Bool} {q:ba->Bool}:∀ (l:List ba) (k:Nat),(∀ j s,l[j]? = some s->p (k+j) s = !q s)->allI p k l = !l.any q
 | [],_,_=>rfl
 |s::l,k,h=>by rw [allI,List.any_cons,ai8 l (k+1) (fun j s' hj=>by rw [show k+1+j=k+(j+1) by omega];exact h (j+1) s' (by rw [List.getElem?_cons_succ];exact hj))];have:=h 0 s rfl;rw [Nat.add_zero] at this;rw [this,Bool.not_or]
def Tf (s:ba):Bool:=decide ((s.type.toNat:Int)=6)
def Zl (z:ay) (s:ba):Bool:=decide ((s.type.toNat:Int)=6) && (dt s.owner z.origin && decide ((s.data.length:Int)=1))
theorem ad1 (z:ay):∀ (l:List ba) (p:Nat × Nat),l.foldl (ln z) p=(p.1+l.countP Tf,p.2+l.countP (Zl z))
 | [],p=>rfl
 |s::l,p=>by
  rw [List.foldl_cons,ad1 z l,List.countP_cons,List.countP_cons];unfold ln Tf Zl;by_cases h:(s.type.toNat:Int)=6
  ·rw [if_pos h,zp h,Bool.true_and,if_pos rfl];dsimp only
   congr 1
   ·omega
   ·split<;>omega
  ·rw [if_neg h,zq h,Bool.false_and,if_neg (by simp)];rfl
theorem ays (z:ay) (l:List ba):l.countP Tf=l.countP (Zl z)+l.countP (zz z):=by
 induction l with
 |nil=>rfl
 |cons s l ih=>
  rw [List.countP_cons,List.countP_cons,List.countP_cons,ih];unfold Tf Zl zz;cases decide ((s.type.toNat:Int)=6)<;>cases dt s.owner z.origin<;>by_cases h:(s.data.length:Int)=1<;>simp [h]<;>omega
theorem az5 (z:ay):(decide ((ik z).1=1) && decide ((ik z).2=1)) = !(z.ak.any (zz z) || decide ((yk z z.ak.length:Int)≠1)):=by
 have h1:ik z=(z.ak.countP Tf,z.ak.countP (Zl z)):=by unfold ik;rw [ad1];simp
 have h2:yk z z.ak.length=z.ak.countP Tf:=by unfold yk;rw [zz7,List.countP_eq_length_filter];rfl
 have h3:=ays z z.ak;have h4:z.ak.any (zz z)=decide (0<z.ak.countP (zz z)):=by rw [any_filter,List.countP_eq_length_filter]
 rw [h1,h2,h4,<- Bool.decide_and,<- Bool.decide_or,<- decide_not,decide_eq_decide];dsimp only;omega
theorem aCh (b2 b3 b4 b5 b6 b7 b8:Bool):Lh [!b2,!b3,!b4,!b5,!b6,!b7,!b8] [261,262,263,264,265,266,267]=nx b8 267 (nx b7 266 (nx b6 265 (nx b5 264 (nx b4 263 (nx b3 262 (nx b2 261 0)))))):=by cases b2<;>cases b3<;>cases b4<;>cases b5<;>cases b6<;>cases b7<;>cases b8<;>rfl
theorem Sj {q:ba->Bool} (l:List ba):l.any (fun s=>!q s) = !l.all q:=by rw [List.all_eq_not_any_not,Bool.not_not]
theorem aAh (z:ay):Z1 z=if A8 z≠0 then A8 z else Fu z:=by
 have h2:Ir z=nx (z.ak.all kh) 261 (A8 z):=by unfold Ir;rw [Bu (by decide),C5]
 have h3:rk z=nx (z.ak.all fun s=>dj s.owner z.origin) 262 (Ir z):=by unfold rk;rw [Bu (by decide),C5]
 have h4:m5 z=nx (!(z.ak.any (zz z) || decide ((yk z z.ak.length:Int)≠1))) 263 (rk z):=by unfold m5;rw [Wf,az5]
 have h5:A7 z=nx (z.ak.any (xz z)) 264 (m5 z):=by unfold A7;rw [Wf];rfl
 have h6:A4 z=nx (!z.ak.any (ou z)) 265 (A7 z):=by unfold A4;rw [Bu (by decide),ai8 (q:=ou z) z.ak 0 (fun j s hj=>by rw [Nat.zero_add];exact aou hj)]
 have h7:Gl z=nx (z.ak.all kg) 266 (A4 z):=by unfold Gl;rw [Bu (by decide),C5]
 have h8:Z1 z=nx (z.ak.all (nc z)) 267 (Gl z):=by unfold Z1;rw [Bu (by decide),C5]
 have hr:Fu z=nx (z.ak.all (nc z)) 267 (nx (z.ak.all kg) 266 (nx (!z.ak.any (ou z)) 265 (nx (z.ak.any (xz z)) 264 (nx (!(z.ak.any (zz z) || decide ((yk z z.ak.length:Int)≠1))) 263 (nx (z.ak.all fun s=>dj s.owner z.origin) 262 (nx (z.ak.all kh) 261 0)))))):=by rw [<- aCh,Bool.not_not,Bool.not_not];unfold Fu ak9;rw [show z.ak.any I5 = !z.ak.all kh from Sj _,show z.ak.any (Is z) = !z.ak.all (fun s=>dj s.owner z.origin) from Sj _,show z.ak.any Iw = !z.ak.all kg from Sj _,show z.ak.any (Ic z) = !z.ak.all (nc z) from Sj _]
 rw [h8,h7,h6,h5,h4,h3,h2,hr];by_cases h:A8 z=0
 ·rw [h,if_neg (by simp)]
 ·rw [if_pos h];unfold nx;simp only [ne_eq,h,not_false_eq_true,if_true]
theorem ayt (z:ay):Zn z=fp z:=by
 unfold Zn fp;by_cases h1:dk z.origin=0
 case neg=>
  have:qc z=dk z.origin:=by unfold qc;rw [if_pos h1]
  rw [if_pos h1,this,if_pos h1]
 rw [if_neg (by simpa using h1)];have hf:qc z=ov z.ak (dg (decide (kj z.ak<=2048)) 3 0):=by unfold qc;rw [if_neg (by simpa using h1)]
 by_cases h2 : 2048<kj z.ak
 ·rw [zq zO] at hf;have:qc z=3:=by rw [hf];exact M5 _ (by decide)
  rw [if_pos h2,this,if_pos (by decide)]
 rw [if_neg h2];rw [zp zO] at hf;have hf:qc z=ov z.ak 0:=hf;rw [hf];by_cases h3:ov z.ak 0=0
 case neg=>rw [if_pos h3,if_pos h3]
 have dP:¬ ov z.ak 0≠0:=fun h=>h h3
 rw [if_neg dP,if_neg dP,aAh];have he:A8 z=nx (allI (il z) 0 z.ak) 260 0:=by unfold A8;rw [Bu (by decide),hf,h3]
 rw [he];cases allI (il z) 0 z.ak
 ·rfl
 ·rfl
noncomputable def Bd (x:ay × Unit):Option AV:=if bo x.1 then some ((r1 (bb .i64)).E true (fp x.1)) else none
theorem Yg (x:ay × Unit) (r:AV) (h:Bd x=some r):bj PP 59 ((aC bf a0).E x) r:=by obtain ⟨hc,rfl⟩:=zI h;exact az (ar.cons (aq Ba) (ar.cons (aq aab) (ar.cons (aq aff) (ar.cons (aq ana) (ar.nil PP))))) Tryz.func59 zK zK zK zL (r1 (bb .i64)) true (fp x.1) ((by rw [<- ayt];exact afj x.1 hc))
noncomputable abbrev atm:zE:=(59,true,cx (aC bf a0) Bd)
theorem avf (z:ay) (n:Name) (hz:bo z) (hn:aw n):wl PP [atm,Pg,m8] 0 (Tryz.f48.body.getD .skip) (c9 PP Tryz.f48.results.toList (fun r st=>(r1 (bb .i64)).get true st.h r=some (ef z n))) (cp 0 [bf.val false z,aj.val false n]) (bg []):=by
 unfold Tryz.f48;simp only [dy,bz];simp only [↓wR,zT,simprocAttr,Bd,hz];unfold ef;rw [cf];refine ⟨fun ⟨h,e⟩=>?_,fun ⟨h,e⟩=>?_⟩
 case' refine_2=>
  rw [if_pos e];simp only [↓wR,zT,simprocAttr,h];rw [dh];refine ⟨fun ⟨h4,e4⟩=>?_,fun ⟨h4,e4⟩=>?_⟩
  ·simp only [↓wR,zT,simprocAttr,h4]
  ·exact absurd zO e
 rw [if_neg zO];simp only [↓wR,zT,simprocAttr,h,Af,hn.fit];rw [dh];refine ⟨fun ⟨h2,e2⟩=>?_,fun ⟨h2,e2⟩=>?_⟩
 ·rw [if_pos e2];simp only [↓wR,zT,simprocAttr,h2]
 rw [if_neg zO];simp only [↓wR,zT,simprocAttr,h2,rp,hn,hz.origin];rw [cw];refine ⟨fun h3=>?_,fun h3=>?_⟩
 ·have dP:dj n z.origin=false:=by simpa only [zyd] using h3
  rw [if_pos dP];simp only [↓wR,zT,simprocAttr,h3]
 ·have dP:dj n z.origin=true:=by simpa only [zyh] using h3
  rw [if_neg (by rw [dP];decide)];simp only [↓wR,zT,simprocAttr,h3]
noncomputable def Mc (x:ay × Name × Unit):Option AV:=if bo x.1/\aw x.2.1 then some ((r1 (bb .i64)).E true (ef x.1 x.2.1)) else none
theorem amr (x:ay × Name × Unit) (r:AV) (h:Mc x=some r):bj PP 48 ((aC bf (aC aj a0)).E x) r:=by obtain ⟨hc,rfl⟩:=zI h;exact az (ar.cons (aq Yg) (ar.cons (aq Ba) (ar.cons (aq ye) (ar.nil PP)))) Tryz.func48 zK zK zK zL (r1 (bb .i64)) true (ef x.1 x.2.1) (avf x.1 x.2.1 hc.1 hc.2)
noncomputable abbrev aG6:zE:=(48,true,cx (aC bf (aC aj a0)) Mc)
theorem ar7 {z:ay} {n:Name} {k:Nat} {c:ByteArray} (h:n.drop k=c::n.drop (k+1)):ec z (n.drop k)=if oy z (n.drop k)=true then n.drop k else ec z (n.drop (k+1)):=by rw [h,ec]
theorem an6 (z:ay) (n:Name) (hz:bo z) (hn:aw n):wl PP [aIa,Ad] 0 (Tryz.f50.body.getD .skip) (c9 PP Tryz.f50.results.toList (fun r st=>(r1 aj).get true st.h r=some (ec z n))) (cp 0 [bf.val false z,aj.val false n]) (bg []):=by
 have hq:∀ a b c d,ft a b c=d->ft a b c=d:=fun _ _ _ _ h=>h
 have hlen:=ml hn;unfold Tryz.f50;simp only [dy,bz];simp only [↓wR,zT,simprocAttr];refine dq [1,2,5] (fun (k:Nat)=>[zn n,.ptr 0 0,zi k]) (fun _=>[(zZ z)]) (fun k=>k<=n.length/\ec z n=ec z (n.drop k)) (fun k=>n.length - k) 0 ⟨zzb _,rfl⟩ zS zS ?_;rintro k ⟨hk,hx⟩;simp only [↓wR,zT,simprocAttr];rw [bh];refine ⟨fun h=>?_,fun h=>?_⟩
 ·obtain ⟨c,hc,aF,hlt⟩:=du (zp h);have dZ:=hn.drop k;have kI:=ml dZ;rw [ar7 aF] at hx;simp only [↓wR,zT,simprocAttr,h];refine ⟨zK,.inl ?_⟩;simp only [↓wR,zT,simprocAttr,hk,M8,hz,dZ];refine ⟨by apply hq;kernel_rfl,?_⟩;rw [cw];refine ⟨fun h2=>?_,fun h2=>?_⟩
  ·rw [if_pos h2] at hx;simp only [↓wR,zT,simprocAttr,h2,hk,lz,kI];rw [hx]
   try rfl
  ·rw [if_neg (by rw [h2];decide)] at hx
   repeat (first|simp only [↓wR,zT,simprocAttr,h2]|simp (disch:=omega) only [zW])
   exact ⟨k+1,⟨hlt,hx⟩,zO,zF⟩
 ·rw [eu (zq h)] at hx;simp only [↓wR,zT,simprocAttr,h];rw [hx]
  try rfl
noncomputable def Gg (x:ay × Name × Unit):Option AV:=if bo x.1/\aw x.2.1 then some ((r1 aj).E true (ec x.1 x.2.1)) else none
theorem ae0 (x:ay × Name × Unit) (r:AV) (h:Gg x=some r):bj PP 50 ((aC bf (aC aj a0)).E x) r:=by obtain ⟨hc,rfl⟩:=zI h;exact az (ar.cons (aq acf) (ar.cons (aq pv) (ar.nil PP))) Tryz.func50 zK zK zK zL (r1 aj) true (ec x.1 x.2.1) (an6 x.1 x.2.1 hc.1 hc.2)
noncomputable abbrev azw:zE:=(50,true,cx (aC bf (aC aj a0)) Gg)
theorem aAo (n:Name) (hn:aw n):wl PP [] 0 (Tryz.f89.body.getD .skip) (c9 PP Tryz.f89.results.toList (fun r st=>(r1 aj).get true st.h r=some (pz::n))) (cp 0 [aj.val false n]) (bg []):=by have hl:=hn.lt;have aD:(n.length+1) * 16<=140737488355328:=zO;unfold Tryz.f89;simp only [bz];simp only [↓wR,zT,simprocAttr,aD,Nat.add_comm 1 n.length];rfl
noncomputable def Lc (x:Name × Unit):Option AV:=if aw x.1 then some ((r1 aj).E true (pz::x.1)) else none
theorem ato (x:Name × Unit) (r:AV) (h:Lc x=some r):bj PP 89 ((aC aj a0).E x) r:=by obtain ⟨hc,rfl⟩:=zI h;exact az (ar.nil PP) Tryz.func89 zK zK zK zL (r1 aj) true (pz::x.1) (aAo x.1 hc)
noncomputable abbrev aIp:zE:=(89,true,cx (aC aj a0) Lc)
theorem aE1 {z:ay} {n:Name} (hu:dj n z.origin=true):oy z n=true↔(ec z n).length=n.length:=by
 refine ⟨fun h=>by rw [A3 h],fun h=>?_⟩;cases hh:oy z n with
 |true=>rfl
 |false=>
  obtain ⟨a,r,rfl,_,hc⟩:=He hu hh;rw [hc] at h;obtain ⟨k,hk⟩:=Ax z r;rw [hk,zzt,List.length_cons] at h;omega
theorem aBg (z:ay) (n:Name) (hz:bo z) (hn:aw n) (he:ef z n=0):wl PP [aF3,azw,Z4,Ad,aIa,aIp] 0 (Tryz.f49.body.getD .skip) (c9 PP Tryz.f49.results.toList (fun r st=>(r1 qi).get true st.h r=some (iz z n).1)) (cp 0 [bf.val false z,aj.val false n]) (bg []):=by
 obtain ⟨a1,a2,a3⟩:=rz he;have hlen:=ml hn;unfold Tryz.f49;simp only [dy,bz];unfold iz;rw [if_neg zO];have hcs:=Pa (z:=z) hn;have hst:=N7 (z:=z) a2;have tZ:=aE1 a3;cases hc:k7 z n with
 |some c=>
  simp only [↓wR,zT,simprocAttr,Np,hz,hn,hc,Option.isSome_some,Option.getD_some]
 |none=>
  simp only [↓wR,zT,simprocAttr,Np,hz,hn,hc,Option.isSome_none,Gg,A2];rw [bh];refine ⟨fun h1=>?_,fun h1=>?_⟩
  ·rw [if_pos zO];simp only [↓wR,zT,simprocAttr,h1,lz,hlen]
  rw [if_neg zO];simp only [↓wR,zT,simprocAttr,h1,M8,hz,hn];rw [cw];refine ⟨fun h2=>?_,fun h2=>?_⟩
  ·rw [if_pos (tZ.1 h2)];simp only [↓wR,zT,simprocAttr,h2]
  rw [if_neg (fun q=>by rw [tZ.2 q] at h2;cases h2)];simp only [↓wR,zT,simprocAttr,h2];refine ⟨zK,.inl ?_⟩;simp only [↓wR,zT,simprocAttr,Lc,hcs,M8,hz,hst];refine ⟨zK,?_⟩;rw [cw];refine ⟨fun h3=>?_,fun h3=>?_⟩
  ·rw [if_pos h3];simp only [↓wR,zT,simprocAttr,h3,Lc,hcs]
  ·rw [if_neg (by rw [h3];decide)];simp only [↓wR,zT,simprocAttr,h3]
noncomputable def Rv (x:ay × Name × Unit):Option AV:=if (bo x.1/\aw x.2.1)/\ef x.1 x.2.1=0 then some ((r1 qi).E true ((iz x.1 x.2.1).1)) else none
theorem atb (x:ay × Name × Unit) (r:AV) (h:Rv x=some r):bj PP 49 ((aC bf (aC aj a0)).E x) r:=by obtain ⟨hc,rfl⟩:=zI h;exact az (ar.cons (aq aen) (ar.cons (aq ae0) (ar.cons (aq Dh) (ar.cons (aq pv) (ar.cons (aq acf) (ar.cons (aq ato) (ar.nil PP))))))) Tryz.func49 zK zK zK zL (r1 qi) true ((iz x.1 x.2.1).1) (aBg x.1 x.2.1 hc.1.1 hc.1.2 hc.2)
noncomputable abbrev aI1:zE:=(49,true,cx (aC bf (aC aj a0)) Rv)
theorem axb {z:ay} {n:Name} (h:ef z n=0):(iz z n).2=0:=by
 unfold iz;rw [if_neg zO]
 repeat' split
 all_goals rfl
theorem asz {l:List ba} {p:ba->Bool} {i:Nat} {c:ba} (h:l[i]? = some c):(l.take (i+1)).filter p=if p c=true then (l.take i).filter p++[c] else (l.take i).filter p:=by rw [aek h,List.filter_append];cases hp:p c<;>simp [hp]
noncomputable def Dg (z:ay) (n:Name) (t:UInt16):Int:=if ef z n≠0 then ef z n else if (t.toNat:Int)=0\/(t.toNat:Int)=41 then 6 else 0
theorem at7 (z:ay) (n:Name) (t:UInt16) (hz:bo z) (hn:aw n):wl PP [aG6] 0 (Tryz.f55.body.getD .skip) (c9 PP Tryz.f55.results.toList (fun r st=>(r1 (bb .i64)).get true st.h r=some (Dg z n t))) (cp 0 [bf.val false z,aj.val false n,cj.val false t]) (bg []):=by
 unfold Tryz.f55;simp only [dy,bz];unfold Dg;simp only [↓wR,zT,simprocAttr,Mc,hz,hn];rw [dh];refine ⟨fun ⟨h1,e1⟩=>?_,fun ⟨h1,e1⟩=>?_⟩
 ·rw [if_pos e1];simp only [↓wR,zT,simprocAttr,h1]
 rw [if_neg zO];simp only [↓wR,zT,simprocAttr,h1];rw [cf];refine ⟨fun ⟨h2,e2⟩=>?_,fun ⟨h2,e2⟩=>?_⟩
 ·rw [if_pos (.inl e2)];simp only [↓wR,zT,simprocAttr,h2]
 simp only [↓wR,zT,simprocAttr,h2];rw [cf];refine ⟨fun ⟨h3,e3⟩=>?_,fun ⟨h3,e3⟩=>?_⟩
 ·rw [if_pos (.inr e3)];simp only [↓wR,zT,simprocAttr,h3]
 ·rw [if_neg (fun q=>q.elim e2 e3)];simp only [↓wR,zT,simprocAttr,h3]
noncomputable def Ie (x:ay × Name × UInt16 × Unit):Option AV:=if bo x.1/\aw x.2.1 then some ((r1 (bb .i64)).E true (Dg x.1 x.2.1 x.2.2.1)) else none
theorem aj5 (x:ay × Name × UInt16 × Unit) (r:AV) (h:Ie x=some r):bj PP 55 ((aC bf (aC aj (aC cj a0))).E x) r:=by obtain ⟨hc,rfl⟩:=zI h;exact az (ar.cons (aq amr) (ar.nil PP)) Tryz.func55 zK zK zK zL (r1 (bb .i64)) true (Dg x.1 x.2.1 x.2.2.1) (at7 x.1 x.2.1 x.2.2.1 hc.1 hc.2)
noncomputable abbrev aFy:zE:=(55,true,cx (aC bf (aC aj (aC cj a0))) Ie)
def u0 (t:Int) (s:ba):Bool:=decide (t=255) || decide ((s.type.toNat:Int)=t)
def iq (t:Int) (l:List ba):List ba:=l.filter (u0 t)
theorem uz (l:List ba) (t:UInt16) (hl:l.length<=16777216):ky PP 92 [.vl true 5 (l.map (ag.val true)),cj.val false t] (bg [])
 (fun r st'=>r = .sl 0 0 (iq t.toNat l).length 5/\st'=bg [some (.row (cellsOf ag true ((iq t.toNat l))) 0 0 63)]):=by
 have hq:∀ a b c d,ft a b c=d->ft a b c=d:=fun _ _ _ _ h=>h
 obtain ⟨p,hp⟩:∃ p,p=u0 t.toNat:=⟨_,rfl⟩;have hv:iq t.toNat l=l.filter p:=by rw [hp];rfl
 rw [hv];refine en _ rfl ?_ (fun r st' h=>h);refine ct (T:=[]) (ar.nil PP) mixed Tryz.func92 rfl zK zK zK zK ?_;unfold Tryz.f92;simp only [↓wR,zT,simprocAttr];refine fg [0,1,6,5] (fun (i:Nat)=>[.vl true 5 (l.map (ag.val true)),.sc (.int .u16 t.toNat),zi i,.sl 0 0 ((l.take i).filter p).length 5]) (fun i=>[some (.row (cellsOf ag true (((l.take i).filter p))) 0 0 63)]) (fun i=>i<=l.length) (fun i=>l.length - i) 0 (zzb _) zX ?_;intro i hi;simp only [↓wR,zT,simprocAttr];rw [bh];refine ⟨fun h=>?_,fun h=>?_⟩
 ·obtain ⟨c,hc,aF,hlt⟩:=du (zp h);have bN:=asz (p:=p) hc;have gB:=List.length_filter_le p (l.take i);rw [zzl] at gB;have aD:(((l.take i).filter p).length * 5+5) * 64<=140737488355328:=zO;have eN:p c=true->(l.take (i+1)).filter p=(l.take i).filter p++[c]:=fun q=>by rw [bN,if_pos q]
  have jI:p c=false->(l.take (i+1)).filter p=(l.take i).filter p:=fun q=>by rw [bN,if_neg (by rw [q];decide)]
  by_cases e1:(t.toNat:Int)=255
  ·have b1:((t.toNat:Int) == 255)=true:=by simp [e1]
   have pc:p c=true:=by rw [hp];unfold u0;rw [zp e1];rfl
   repeat (first|simp only [↓wR,zT,simprocAttr,h,b1,hc,aD]|simp (disch:=omega) only [zW])
   exact ⟨i+1,hlt,zO,by rw [eN pc,za];exact zF,by rw [eN pc,kr]⟩
  ·have b1:((t.toNat:Int) == 255)=false:=by simp [e1]
   by_cases e2:(c.type.toNat:Int)=t.toNat
   ·have b2:((c.type.toNat:Int) == t.toNat)=true:=by simp [e2]
    have pc:p c=true:=by rw [hp];unfold u0;rw [zp e2,Bool.or_true]
    repeat (first|simp only [↓wR,zT,simprocAttr,h,b1,hc,b2,aD]|simp (disch:=omega) only [zW])
    exact ⟨i+1,hlt,zO,by rw [eN pc,za];exact zF,by rw [eN pc,kr]⟩
   ·have b2:((c.type.toNat:Int) == t.toNat)=false:=by simp [e2]
    have pc:p c=false:=by rw [hp];unfold u0;rw [zq e1,zq e2];rfl
    repeat (first|simp only [↓wR,zT,simprocAttr,h,b1,hc,b2]|simp (disch:=omega) only [zW])
    exact ⟨i+1,hlt,zO,by rw [jI pc];exact zF,by rw [jI pc]⟩
 ·have hin:i=l.length:=zO;subst hin;rw [zz7];simp only [↓wR,zT,simprocAttr,h,jx,jo,ja]
theorem ae2 (l:List ba) (hl:xf l) (hl2:l.length<=16777216):ky PP 39 [(cg ag).val false l] (bg [])
 (fun r st'=>r = .sl 0 0 l.length 5/\st'=bg [some (.row (cellsOf ag true ((l))) 0 0 63)]):=by
 refine en _ rfl ?_ (fun r st' h=>h);simp only [l5];refine ct (T:=[aav]) (ar.cons (aq Iq) (ar.nil PP)) mixed Tryz.func39 rfl zK zK zK zK ?_;unfold Tryz.f39;simp only [↓wR,zT,simprocAttr];refine fg [0,4,3] (fun (x:List ba)=>[zs l,zi x.length,.sl 0 0 x.length 5]) (fun x=>[some (.row (cellsOf ag true (x)) 0 0 63)]) (fun x=>x.length<=l.length/\x++l.drop x.length=l) (fun x=>l.length - x.length) [] ⟨zzb _,rfl⟩ zX ?_;rintro x ⟨hi,hx⟩;simp only [↓wR,zT,simprocAttr];rw [bh];refine ⟨fun h=>?_,fun h=>?_⟩
 ·obtain ⟨c,hc,aF,hlt⟩:=du (zp h);rw [aF] at hx;have hcs:=hl.2 c (zm hc);have aD:(x.length * 5+5) * 64<=140737488355328:=zO
  repeat (first|simp only [↓wR,zT,simprocAttr,h,hc,vm,hcs,aD]|simp (disch:=omega) only [zW])
  refine ⟨x++[c],⟨by simp;omega,by simpa using hx⟩,by simp;omega,zF,?_⟩;rw [kr]
 ·rw [eu (zq h),zzn] at hx;subst hx;simp only [↓wR,zT,simprocAttr,h,jx,jo,ja]
theorem axn (l:List ba) (n:Name) (hl:xf l) (hl2:l.length<=16777216) (hn:aw n):wl PP [Ad] 0 (Tryz.f93.body.getD .skip) (c9 PP Tryz.f93.results.toList (fun r st=>(r1 (cg ag)).get true st.h r=some (l.map (nb n)))) (cp 0 [(cg ag).val false l,aj.val false n]) (bg []):=by
 have dT:=ml hn;unfold Tryz.f93;simp only [l5,bz];simp only [↓wR,zT,simprocAttr];refine pf [] (ae2 l hl hl2) (by decide) (by simp only [↓wR,zT,simprocAttr]) (by simp only [↓wR,zT,simprocAttr]) (zB rfl) (by simp only [↓wR,zT,simprocAttr,l5]) (by simp only [↓wR,zT,simprocAttr]) ⟨zB rfl,zB rfl⟩ ?_;simp only [↓wR,zT,simprocAttr,gq,m7,qe,qj,Bc];refine dq [1,5,6] (fun (i:Nat)=>[zn n,.sl 0 0 l.length 5,zi i]) (fun i=>[some (.row (cellsOf ag true ((l.take i).map (nb n)++l.drop i)) 0 0 63)]) (fun i=>i<=l.length) (fun i=>l.length - i) 0 (zzb _) zS zS ?_;intro i hi;simp only [↓wR,zT,simprocAttr];rw [bh];refine ⟨fun h=>?_,fun h=>?_⟩
 ·obtain ⟨c,hc,aF,hlt⟩:=du (zp h);have lV:((l.take i).map (nb n)++l.drop i)[i]? = some c:=by
   rw [zzd (by simp;omega),aF];simp [Nat.min_eq_left (show i<=l.length by omega)]
  have hst:=acw (xs:=(l.take i).map (nb n)++l.drop i) n 0 63 0 lV;have iJ:((l.take i).map (nb n)++l.drop i).take i++nb n c::((l.take i).map (nb n)++l.drop i).drop (i+1)=(l.take (i+1)).map (nb n)++l.drop (i+1):=by
   obtain ⟨_,rfl⟩:=zg.1 hc;have iW:((l.take i).map (nb n)).length=i:=by simp;omega
   rw [List.take_left' iW,List.drop_append,iW,zz5 hlt,zzw];rw [zzx zO,List.drop_drop,Nat.add_sub_cancel_left];simp
  rw [iJ] at hst
  repeat (first|simp only [↓wR,zT,simprocAttr,h,lz,dT,↓hst]|simp (disch:=omega) only [zW])
  exact ⟨i+1,hlt,zO,zF⟩
 ·have hin:i=l.length:=zO;subst hin;have hd:∀ fr h k st et,A5 fr st 5 ag.kd et=true->kl ag fr h 0 l.length (.row (cellsOf ag true (l.map (nb n))) k st et)=some (l.map (nb n)):=fun fr h k st et hro=>nv ag fr h true _ k st et _ (by rw [zzo]) (by cases fr<;>rfl) hro
  simp only [↓wR,zT,simprocAttr,h,zz7,List.drop_length,zzn,hd]
noncomputable def Lu (x:List ba × Name × Unit):Option AV:=if (xf x.1/\x.1.length<=16777216)/\aw x.2.1 then some ((r1 (cg ag)).E true (x.1.map (nb x.2.1))) else none
theorem ang (x:List ba × Name × Unit) (r:AV) (h:Lu x=some r):bj PP 93 ((aC (cg ag) (aC aj a0)).E x) r:=by obtain ⟨hc,rfl⟩:=zI h;exact az (ar.cons (aq pv) (ar.nil PP)) Tryz.func93 zK zK zK zL (r1 (cg ag)) true (x.1.map (nb x.2.1)) (axn x.1 x.2.1 hc.1.1 hc.1.2 hc.2)
noncomputable abbrev aHh:zE:=(93,true,cx (aC (cg ag) (aC aj a0)) Lu)
noncomputable def Zt (t:Int) (l:List ba):Ja:=
 if 0<(iq t l).length then pd 0 (iq t l) []
 else if 0<(iq 5 l).length then pd 1 (iq 5 l) ((((iq 5 l)[0]?).bind fun x=>(x.data[0]?).bind fun d=>d.names[0]?).getD [])
 else pd 2 [] []
noncomputable def Ss (z:ay) (n:Name) (t:UInt16) (s:Cp):Ja:=
 if s.kind=4 then pd 4 (iq 2 (fl z s.node)) []
 else if s.kind=0 then pd 3 [] []
 else if s.kind=2 then pd 2 [] []
 else Zt t.toNat (if s.kind=3 then (fl z s.node).map (nb n) else fl z s.node)
set_option maxHeartbeats 4000000 in
theorem azl (z:ay) (n:Name) (t:UInt16) (hz:bo z) (hn:aw n) (he:ef z n=0):wl PP [aI1,Z4,aHh,Ad] 0 (Tryz.f56.body.getD .skip) (c9 PP Tryz.f56.results.toList (fun r st=>(r1 Av).get true st.h r=some (Ss z n t (iz z n).1))) (cp 0 [bf.val false z,aj.val false n,cj.val false t]) (bg []):=by
 have cE:=acm hz hn;have hzl:=hz.len;obtain ⟨⟨k,nd,cl⟩,hP⟩:∃ P,P=(iz z n).1:=⟨_,rfl⟩;rw [<- hP] at cE ⊢;have hat:(fl z nd).length<=z.ak.length:=n5 _;have xV:xf (fl z nd):=⟨zO,fun s hs=>hz.set s (List.mem_filter.1 hs).1⟩;have hdec:∀ (l:List ba) fr h k st et,A5 fr st 5 ag.kd et=true->kl ag fr h 0 l.length (.row (cellsOf ag true l) k st et)=some l:=fun l fr h k st et hro=>nv ag fr h true _ k st et _ rfl (by cases fr<;>rfl) hro
 have t2:ky PP 92 [.vl true 5 ((fl z nd).map (ag.val true)),.sc (.int .u16 2)] (bg []) (fun r st'=>r = .sl 0 0 (iq 2 (fl z nd)).length 5/\st'=bg [some (.row (cellsOf ag true ((iq 2 (fl z nd)))) 0 0 63)]):=uz (fl z nd) 2 zO;unfold Tryz.f56;simp only [dy,bz];unfold Ss;simp only [↓wR,zT,simprocAttr,Rv,hz,hn,he,<- hP];rw [cf];refine ⟨fun ⟨h4,e4⟩=>?_,fun ⟨h4,e4⟩=>?_⟩
 ·rw [if_pos e4];simp only [↓wR,zT,simprocAttr,h4,A2,hz,cE];refine pf [] t2 (by decide) (by simp only [↓wR,zT,simprocAttr]) (by simp only [↓wR,zT,simprocAttr]) (zB rfl) (by simp only [↓wR,zT,simprocAttr]) (by simp only [↓wR,zT,simprocAttr]) ⟨zB rfl,zB rfl⟩ ?_;simp only [↓wR,zT,simprocAttr,gq,m7,qe,qj,Bc,hdec]
 rw [if_neg e4];simp only [↓wR,zT,simprocAttr,h4];rw [cf];refine ⟨fun ⟨h0,e0⟩=>?_,fun ⟨h0,e0⟩=>?_⟩
 ·rw [if_pos e0];simp only [↓wR,zT,simprocAttr,h0]
 rw [if_neg e0];simp only [↓wR,zT,simprocAttr,h0];rw [cf];refine ⟨fun ⟨h2,e2⟩=>?_,fun ⟨h2,e2⟩=>?_⟩
 ·rw [if_pos e2];simp only [↓wR,zT,simprocAttr,h2]
 rw [if_neg e2];simp only [↓wR,zT,simprocAttr,h2,A2,hz,cE];have hown:∀ x ∈ (fl z nd).map (nb n),∃ y ∈ z.ak,x.data=y.data/\x.type=y.type:=fun x hx=>by obtain ⟨y,hy,rfl⟩:=zyj.1 hx;exact ⟨y,(List.mem_filter.1 hy).1,rfl,rfl⟩
 have nX:∀ x ∈ fl z nd,∃ y ∈ z.ak,x.data=y.data/\x.type=y.type:=fun x hx=>⟨x,(List.mem_filter.1 hx).1,rfl,rfl⟩
 have eZ:((fl z nd).map (nb n)).length<=16777216:=by rw [zzo];omega
 have dO:(fl z nd).length<=16777216:=zO;have iZ:=ze (rz he).1;rw [cf];refine ⟨fun ⟨h3,e3⟩=>?_,fun ⟨h3,e3⟩=>?_⟩
 ·rw [if_pos e3];obtain ⟨L,hL⟩:∃ L,L=(fl z nd).map (nb n):=⟨_,rfl⟩;rw [<- hL] at hown eZ ⊢;simp only [↓wR,zT,simprocAttr,h3,Lu,xV,dO,hn,<- hL];have c1:=uz L t eZ;have c2:ky PP 92 [.vl true 5 (L.map (ag.val true)),.sc (.int .u16 5)] (bg []) (fun r st'=>r = .sl 0 0 (iq 5 L).length 5/\st'=bg [some (.row (cellsOf ag true ((iq 5 L))) 0 0 63)]):=uz L 5 eZ;refine pf [] c1 (by decide) (by simp only [↓wR,zT,simprocAttr]) (by simp only [↓wR,zT,simprocAttr]) (zB rfl) (by simp only [↓wR,zT,simprocAttr]) (by simp only [↓wR,zT,simprocAttr]) ⟨zB rfl,zB rfl⟩ ?_;simp only [↓wR,zT,simprocAttr,gq,m7,qe,qj,Bc];unfold Zt;rw [bh];refine ⟨fun h5=>?_,fun h5=>?_⟩
  ·rw [if_pos zO];simp only [↓wR,zT,simprocAttr,h5,hdec]
  rw [if_neg zO];simp only [↓wR,zT,simprocAttr,h5];refine pf [] c2 (by decide) (by simp only [↓wR,zT,simprocAttr]) (by simp only [↓wR,zT,simprocAttr]) (zB rfl) (by simp only [↓wR,zT,simprocAttr]) (by simp only [↓wR,zT,simprocAttr]) ⟨zB rfl,zB rfl⟩ ?_;simp only [↓wR,zT,simprocAttr,gq,m7,qe,qj,Bc];rw [bh];refine ⟨fun h6=>?_,fun h6=>?_⟩
  ·rw [if_pos zO];obtain ⟨A,hA⟩:∃ A,A=iq 5 L:=⟨_,rfl⟩;have sO:∀ x ∈ A,x ∈ L/\(x.type.toNat:Int)=5:=fun x hx=>by
    rw [hA] at hx;have:=List.mem_filter.1 hx;refine ⟨this.1,?_⟩;have h7:=this.2;unfold u0 at h7;simpa using h7
   rw [<- hA] at h6 ⊢;cases A with
   |nil=>simp at h6
   |cons x r=>
    obtain ⟨hx,pY⟩:=sO x (by simp);obtain ⟨y,hy,hd,ht⟩:=hown x hx;obtain ⟨d,nm,q1,q2⟩:=Wb (iZ y hy) (by rw [<- ht];exact pY);rw [<- hd] at q1;have dB:=(hz.set y hy).data.mem d (by rw [<- hd];exact zm q1);have mU:aw nm:=dB.name nm (zm q2);have hnl:=ml mU;have hdr:∀ fr h k st et,A5 fr st 5 ag.kd et=true->kl ag fr h 0 (r.length+1) (.row (zt x.owner :: .sc (.int .u16 x.type.toNat) :: .sc (.int .u16 x.cls.toNat) :: .sc (.int .u32 x.i9.toNat) :: .vl true 4 (x.data.map (bc.val true))::cellsOf ag true r) k st et)=some (x::r):=fun fr h k st et hro=>by have:=hdec (x::r) fr h k st et hro;rw [qu] at this;exact this
    have nJ:(((x::r)[0]?).bind fun y=>(y.data[0]?).bind fun d=>d.names[0]?).getD []=nm:=by rw [List.getElem?_cons_zero,Option.bind_some,q1,Option.bind_some,q2];rfl
    rw [nJ];have jB:ag.cells true x=[zt x.owner,.sc (.int .u16 x.type.toNat),.sc (.int .u16 x.cls.toNat),.sc (.int .u32 x.i9.toNat),.vl true 4 (x.data.map (bc.val true))]:=rfl;have cG : 0<r.length+1:=zO;simp only [↓wR,zT,simprocAttr,h6,qu,jB,cG,List.cons_append,List.nil_append,q1,q2,lz,hnl,hdr]
    try rfl
  ·rw [if_neg zO];simp only [↓wR,zT,simprocAttr,h6]
 ·rw [if_neg e3];simp only [↓wR,zT,simprocAttr,h3];generalize fl z nd=L at nX dO ⊢;have c1:=uz L t dO;have c2:ky PP 92 [.vl true 5 (L.map (ag.val true)),.sc (.int .u16 5)] (bg []) (fun r st'=>r = .sl 0 0 (iq 5 L).length 5/\st'=bg [some (.row (cellsOf ag true ((iq 5 L))) 0 0 63)]):=uz L 5 dO;refine pf [] c1 (by decide) (by simp only [↓wR,zT,simprocAttr]) (by simp only [↓wR,zT,simprocAttr]) (zB rfl) (by simp only [↓wR,zT,simprocAttr]) (by simp only [↓wR,zT,simprocAttr]) ⟨zB rfl,zB rfl⟩ ?_;simp only [↓wR,zT,simprocAttr,gq,m7,qe,qj,Bc];unfold Zt;rw [bh];refine ⟨fun h5=>?_,fun h5=>?_⟩
  ·rw [if_pos zO];simp only [↓wR,zT,simprocAttr,h5,hdec]
  rw [if_neg zO];simp only [↓wR,zT,simprocAttr,h5];refine pf [] c2 (by decide) (by simp only [↓wR,zT,simprocAttr]) (by simp only [↓wR,zT,simprocAttr]) (zB rfl) (by simp only [↓wR,zT,simprocAttr]) (by simp only [↓wR,zT,simprocAttr]) ⟨zB rfl,zB rfl⟩ ?_;simp only [↓wR,zT,simprocAttr,gq,m7,qe,qj,Bc];rw [bh];refine ⟨fun h6=>?_,fun h6=>?_⟩
  ·rw [if_pos zO];obtain ⟨A,hA⟩:∃ A,A=iq 5 L:=⟨_,rfl⟩;have sO:∀ x ∈ A,x ∈ L/\(x.type.toNat:Int)=5:=fun x hx=>by
    rw [hA] at hx;have:=List.mem_filter.1 hx;refine ⟨this.1,?_⟩;have h7:=this.2;unfold u0 at h7;simpa using h7
   rw [<- hA] at h6 ⊢;cases A with
   |nil=>simp at h6
   |cons x r=>
    obtain ⟨hx,pY⟩:=sO x (by simp);obtain ⟨y,hy,hd,ht⟩:=nX x hx;obtain ⟨d,nm,q1,q2⟩:=Wb (iZ y hy) (by rw [<- ht];exact pY);rw [<- hd] at q1;have dB:=(hz.set y hy).data.mem d (by rw [<- hd];exact zm q1);have mU:aw nm:=dB.name nm (zm q2);have hnl:=ml mU;have hdr:∀ fr h k st et,A5 fr st 5 ag.kd et=true->kl ag fr h 0 (r.length+1) (.row (zt x.owner :: .sc (.int .u16 x.type.toNat) :: .sc (.int .u16 x.cls.toNat) :: .sc (.int .u32 x.i9.toNat) :: .vl true 4 (x.data.map (bc.val true))::cellsOf ag true r) k st et)=some (x::r):=fun fr h k st et hro=>by have:=hdec (x::r) fr h k st et hro;rw [qu] at this;exact this
    have nJ:(((x::r)[0]?).bind fun y=>(y.data[0]?).bind fun d=>d.names[0]?).getD []=nm:=by rw [List.getElem?_cons_zero,Option.bind_some,q1,Option.bind_some,q2];rfl
    rw [nJ];have jB:ag.cells true x=[zt x.owner,.sc (.int .u16 x.type.toNat),.sc (.int .u16 x.cls.toNat),.sc (.int .u32 x.i9.toNat),.vl true 4 (x.data.map (bc.val true))]:=rfl;have cG : 0<r.length+1:=zO;simp only [↓wR,zT,simprocAttr,h6,qu,jB,cG,List.cons_append,List.nil_append,q1,q2,lz,hnl,hdr]
    try rfl
  ·rw [if_neg zO];simp only [↓wR,zT,simprocAttr,h6]
noncomputable def xo (x:ay × Name × UInt16 × Unit):Option AV:=if (bo x.1/\aw x.2.1)/\ef x.1 x.2.1=0 then some ((r1 Av).E true (Ss x.1 x.2.1 x.2.2.1 (iz x.1 x.2.1).1)) else none
theorem at2 (x:ay × Name × UInt16 × Unit) (r:AV) (h:xo x=some r):bj PP 56 ((aC bf (aC aj (aC cj a0))).E x) r:=by obtain ⟨hc,rfl⟩:=zI h;exact az (ar.cons (aq atb) (ar.cons (aq Dh) (ar.cons (aq ang) (ar.cons (aq pv) (ar.nil PP))))) Tryz.func56 zK zK zK zL (r1 Av) true (Ss x.1 x.2.1 x.2.2.1 (iz x.1 x.2.1).1) (azl x.1 x.2.1 x.2.2.1 hc.1.1 hc.1.2 hc.2)
noncomputable abbrev aCp:zE:=(56,true,cx (aC bf (aC aj (aC cj a0))) xo)
theorem Z7 {p q:ba->Bool}:∀ {l:List ba},(∀ x ∈ l,p x=q x)->l.find? p=l.find? q
 | [],_=>rfl
 |a::l,h=>by rw [List.find?_cons,List.find?_cons,h a (by simp),Z7 (fun x hx=>h x (List.mem_cons_of_mem _ hx))]
theorem Uv {q:ba->Bool}:∀ {l:List ba},l.Pairwise (fun a b=>¬ (q a=true/\q b=true))->l.filter q=(l.find? q).toList
 | [],_=>rfl
 |a::l,h=>by
  rw [List.pairwise_cons] at h;rw [List.filter_cons,List.find?_cons];cases hq:q a
  ·rw [if_neg (by decide)];exact Uv h.2
  ·rw [if_pos rfl];have:l.filter q=[]:=by
    rw [List.filter_eq_nil_iff];intro b hb wJ;exact h.1 b hb ⟨hq,wJ⟩
   rw [this];rfl
def xj (l:List ba):Prop:=l.Pairwise fun a b=>a.type≠b.type
theorem E7 {z:ay} (hg:G2 z) (m:Name):xj (fl z m):=by unfold xj fl;have h:=(as7 hg).filter (fun s=>dt s.owner m);refine h.imp_of_mem ?_;intro a b ha hb hab ht;have h1:=(List.mem_filter.1 ha).2;have h2:=(List.mem_filter.1 hb).2;simp only [dt,decide_eq_true_eq] at h1 h2;exact hab ⟨by unfold dt;exact zp (h1.trans h2.symm),ht⟩
theorem ayl {l:List ba} (h:xj l) (n:Name):xj (l.map (nb n)):=by unfold xj at h ⊢;rw [List.pairwise_map];exact h
theorem Cb {l:List ba} (h:xj l) {t:Int} (ht:t≠255):iq t l=(l.find? (fun s=>decide ((s.type.toNat:Int)=t))).toList:=by
 have hp:u0 t=fun s=>decide ((s.type.toNat:Int)=t):=by funext s;unfold u0;rw [zq ht,Bool.false_or]
 unfold iq;rw [hp];refine Uv (h.imp ?_);rintro a b hab ⟨h1,h2⟩;have h1:=of_decide_eq_true h1;have h2:=of_decide_eq_true h2;exact hab (UInt16.toNat_inj.1 zO)
theorem acz {l:List ba} (h:xj l) (t:UInt16):Zt t.toNat l=S4 t l:=by
 unfold Zt S4;by_cases ht:(t.toNat:Int)=255
 ·have hv:iq t.toNat l=l:=by
   unfold iq;rw [List.filter_eq_self];intro s _;unfold u0;rw [zp ht,Bool.true_or]
  rw [hv];by_cases hl : 0<l.length
  ·rw [if_pos hl,if_pos ⟨ht,hl⟩]
  ·have:l=[]:=zzf zO;subst this;rw [if_neg (show ¬ ((t.toNat:Int)=255/\0<([]:List ba).length) from fun q=>hl q.2)];rfl
 ·rw [Cb h ht,Cb h (by decide),if_neg (show ¬ ((t.toNat:Int)=255/\0<l.length) from fun q=>ht q.1)];have e5:(fun s:ba=>decide ((s.type.toNat:Int)=5) && decide ((t.toNat:Int)≠255))=fun s=>decide ((s.type.toNat:Int)=5):=by funext s;rw [zp ht,Bool.and_true]
  rw [e5];cases l.find? (fun s=>decide ((s.type.toNat:Int)=t.toNat)) with
  |some x=>rfl
  |none=>
   cases l.find? (fun s=>decide ((s.type.toNat:Int)=5)) with
   |some x=>rfl
   |none=>rfl
theorem al0 {n:Name}:∀ (l:List Name) (b:Option Name) {c:Name},l.foldl (Bp n) b=some c->c ∈ l\/b=some c
 | [],b,c,h=>.inr h
 |m::l,b,c,h=>by
  rw [List.foldl_cons] at h;rcases al0 l _ h with h1|h1
  ·exact .inl (List.mem_cons_of_mem _ h1)
  ·unfold Bp at h1
   split at h1
   ·cases h1;exact .inl (by simp)
   ·exact .inr h1
theorem ax0 {z:ay} {n c:Name} (h:k7 z n=some c):∃ s ∈ z.ak,(s.type.toNat:Int)=2/\s.owner=c:=by
 rw [ajk] at h;rcases al0 _ _ h with h1|h1
 ·unfold Be at h1;obtain ⟨s,hs,rfl⟩:=zyj.1 h1;obtain ⟨h2,h3⟩:=List.mem_filter.1 hs;unfold Az at h3;rw [zzh] at h3;exact ⟨s,h2,of_decide_eq_true h3.1,rfl⟩
 ·cases h1
theorem Pp {z:ay} (hg:G2 z) (c:Name) (t:UInt16):tn z.ak c t=(fl z c).find? (fun s=>decide ((s.type.toNat:Int)=t.toNat)):=by
 unfold tn fl;rw [List.find?_filter];refine Z7 (fun x hx=>?_);have hcl:=hg.cls x hx;have hc1:(x.cls.toNat:Int)=1:=by
  unfold kh at hcl;by_cases q:(x.cls.toNat:Int)=1
  ·exact q
  ·rw [if_pos q] at hcl;cases hcl
 unfold vq;rw [zp hc1,Bool.true_and];generalize dt x.owner c=p;generalize decide ((x.type.toNat:Int)=t.toNat)=q;cases p<;>cases q<;>rfl
theorem aw2 {z:ay} {n:Name} (hz:fp z=0) (he:ef z n=0) (t:UInt16):Ss z n t (iz z n).1=qm z n t (iz z n).1:=by
 have hg:=Co hz;unfold Ss qm;by_cases h4:(iz z n).1.kind=4
 ·rw [if_pos h4,if_pos h4];rcases aau he with ⟨c,hc,e⟩|⟨_,_,_,e⟩|⟨_,_,_,e⟩|⟨_,_,_,_,e⟩|⟨_,_,_,_,e⟩
  ·rw [e];show pd 4 (iq 2 (fl z c)) []=pd 4 [(tn z.ak c 2).getD Vy] [];rw [Cb (E7 hg c) (by decide)];obtain ⟨s,hs,h2,ho⟩:=ax0 hc;have hf:tn z.ak c 2=(fl z c).find? (fun s=>decide ((s.type.toNat:Int)=2)):=Pp hg c 2;rw [hf];have hne:(fl z c).find? (fun s=>decide ((s.type.toNat:Int)=2))≠none:=by
    rw [ne_eq,List.find?_eq_none];intro q;exact q s (List.mem_filter.2 ⟨hs,by rw [ho];exact Xk c⟩) (zp h2)
   cases hq:(fl z c).find? (fun s=>decide ((s.type.toNat:Int)=2)) with
   |none=>exact absurd hq hne
   |some x=>rfl
  all_goals (rw [e] at h4;cases h4)
 ·rw [if_neg h4,if_neg h4]
  split
  ·rfl
  split
  ·rfl
  split
  ·exact acz (ayl (E7 hg _) n) t
  ·exact acz (E7 hg _) t
theorem asv (z:ay) (n:Name) (t:UInt16):(ti z n t).2=Dg z n t:=by
 unfold ti Dg;by_cases h:ef z n=0
 ·have h2:=axb h;rw [if_neg (show ¬ ef z n≠0 from fun q=>q h)];by_cases ht:(t.toNat:Int)=0\/(t.toNat:Int)=41
  ·rw [if_pos ⟨h2,ht⟩,if_pos ht]
  ·rw [if_neg (fun q=>ht q.2),if_neg ht,h2]
 ·have h2:=V0 h;rw [if_pos h,h2];rw [if_neg (fun q=>h q.1)]
theorem ate (z:ay) (hz:bo z) (he:fp z=0):wl PP [Z4] 0 (Tryz.f60.body.getD .skip) (c9 PP Tryz.f60.results.toList (fun r st=>(r1 ag).get true st.h r=some (nl z))) (cp 0 [bf.val false z]) (bg []):=by
 have hq:∀ a b c d,ft a b c=d->ft a b c=d:=fun _ _ _ _ h=>h
 obtain ⟨s,hs⟩:=Pn he;obtain ⟨m1,m2,m3,m4⟩:=G4 hs;obtain ⟨d,k,hd,hk⟩:=ayb (ze he s m1) (by rw [m2];rfl);have hzl:=hz.len;have hat:(fl z z.origin).length<=z.ak.length:=n5 _;have hT:iq 6 (fl z z.origin)=[s]:=by have h1:=Pp (Co he) z.origin 6;rw [hs] at h1;rw [Cb (E7 (Co he) _) (by decide),show (fun s:ba=>decide ((s.type.toNat:Int)=6))=(fun s:ba=>decide ((s.type.toNat:Int)=(6:UInt16).toNat)) from rfl,<- h1];rfl
 have c6:ky PP 92 [.vl true 5 ((fl z z.origin).map (ag.val true)),.sc (.int .u16 6)] (bg []) (fun r st'=>r = .sl 0 0 (iq 6 (fl z z.origin)).length 5/\st'=bg [some (.row (cellsOf ag true ((iq 6 (fl z z.origin)))) 0 0 63)]):=uz (fl z z.origin) 6 zO;rw [hT] at c6;unfold Tryz.f60;simp only [dy];unfold nl;have jB:ag.cells true s=[zt s.owner,.sc (.int .u16 s.type.toNat),.sc (.int .u16 s.cls.toNat),.sc (.int .u32 s.i9.toNat),.vl true 4 (s.data.map (bc.val true))]:=rfl;have hc1:cellsOf ag true [s]=[zt s.owner,.sc (.int .u16 s.type.toNat),.sc (.int .u16 s.cls.toNat),.sc (.int .u32 s.i9.toNat),.vl true 4 (s.data.map (bc.val true))]:=rfl;rw [hc1] at c6;rw [hs];simp only [↓wR,zT,simprocAttr,A2,hz,hz.origin];refine pf [] c6 (by decide) (by simp only [↓wR,zT,simprocAttr]) (by simp only [↓wR,zT,simprocAttr]) (zB rfl) (by simp only [↓wR,zT,simprocAttr]) (by simp only [↓wR,zT,simprocAttr]) ⟨zB rfl,zB rfl⟩ ?_;have hm:(if (k.toNat:Int)<s.i9.toNat then (k.toNat:Int) else s.i9.toNat)=((ai2 s.i9 k).toNat:Int):=by unfold ai2;split<;>split<;>first|rfl|omega
 simp only [↓wR,zT,simprocAttr,gq,m7,qe,qj,Bc,zyg];refine ⟨zK,.inl ?_⟩;simp only [↓wR,zT,simprocAttr,hd,hk,MM0,hm];apply hq;kernel_rfl
noncomputable def Eg (x:ay × Unit):Option AV:=if bo x.1/\fp x.1=0 then some ((r1 ag).E true (nl x.1)) else none
theorem amd (x:ay × Unit) (r:AV) (h:Eg x=some r):bj PP 60 ((aC bf a0).E x) r:=by obtain ⟨hc,rfl⟩:=zI h;exact az (ar.cons (aq Dh) (ar.nil PP)) Tryz.func60 zK zK zK zL (r1 ag) true (nl x.1) (ate x.1 hc.1 hc.2)
noncomputable abbrev aqp:zE:=(60,true,cx (aC bf a0) Eg)
theorem au0 (l:List Name) (n:Name) (hl:l.length<=16777216/\∀ m ∈ l,aw m) (hn:aw n):wl PP [po] 0 (Tryz.f109.body.getD .skip) (c9 PP Tryz.f109.results.toList (fun r st=>(r1 bk).get true st.h r=some (vz l n))) (cp 0 [(cg aj).val false l,aj.val false n]) (bg []):=by
 have hlen:=hl.1;unfold Tryz.f109;simp only [l5,bz];unfold vz;simp only [↓wR,zT,simprocAttr];refine dq [0,1,5] (fun (i:Nat)=>[zv l,zn n,zi i]) (fun _=>[]) (fun i=>i<=l.length/\(l.any fun m=>dt m n)=((l.drop i).any fun m=>dt m n)) (fun i=>l.length - i) 0 ⟨zzb _,rfl⟩ zS zS ?_;rintro i ⟨hi,hx⟩;simp only [↓wR,zT,simprocAttr];rw [bh];refine ⟨fun h=>?_,fun h=>?_⟩
 ·obtain ⟨c,hc,aF,hlt⟩:=du (zp h);rw [aF,List.any_cons] at hx;have hcs:=hl.2 c (zm hc);simp only [↓wR,zT,simprocAttr,h,hc,xu,hcs,hn];rw [cw];refine ⟨fun h2=>?_,fun h2=>?_⟩
  ·rw [h2,Bool.true_or] at hx;simp only [↓wR,zT,simprocAttr,h2,hx]
  ·rw [h2,Bool.false_or] at hx
   repeat (first|simp only [↓wR,zT,simprocAttr,h2]|simp (disch:=omega) only [zW])
   exact ⟨i+1,⟨hlt,hx⟩,zO,zF⟩
 ·rw [eu (zq h),List.any_nil] at hx;simp only [↓wR,zT,simprocAttr,h,hx]
noncomputable def Cj (x:List Name × Name × Unit):Option AV:=if (x.1.length<=16777216/\∀ m ∈ x.1,aw m)/\aw x.2.1 then some ((r1 bk).E true (vz x.1 x.2.1)) else none
theorem Uk (x:List Name × Name × Unit) (r:AV) (h:Cj x=some r):bj PP 109 ((aC (cg aj) (aC aj a0)).E x) r:=by obtain ⟨hc,rfl⟩:=zI h;exact az (ar.cons (aq um) (ar.nil PP)) Tryz.func109 zK zK zK zL (r1 bk) true (vz x.1 x.2.1) (au0 x.1 x.2.1 hc.1 hc.2)
noncomputable abbrev aj3:zE:=(109,true,cx (aC (cg aj) (aC aj a0)) Cj)
theorem ad2:∀ {l:List ba},l.Pairwise (fun a b=>a.type.toNat<b.type.toNat)->l.filter (fun s=>decide ((s.type.toNat:Int)=1) || decide ((s.type.toNat:Int)=28))=l.filter (fun s=>decide ((s.type.toNat:Int)=1))++l.filter (fun s=>decide ((s.type.toNat:Int)=28))
 | [],_=>rfl
 |a::l,h=>by
  rw [List.pairwise_cons] at h;have ih:=ad2 h.2;rw [List.filter_cons,List.filter_cons,List.filter_cons,ih];by_cases h1:(a.type.toNat:Int)=1
  ·have lH:¬ (a.type.toNat:Int)=28:=zO;rw [zp h1,zq lH];rfl
  ·rw [zq h1];by_cases lH:(a.type.toNat:Int)=28
   ·have hno:l.filter (fun s=>decide ((s.type.toNat:Int)=1))=[]:=by
     rw [List.filter_eq_nil_iff];intro b hb q;have:=h.1 b hb;have:=of_decide_eq_true q;omega
    rw [zp lH,hno];rfl
   ·rw [zq lH];rfl
theorem aEi {z:ay} (hg:G2 z) (m:Name):(fl z m).Pairwise fun a b=>a.type.toNat<b.type.toNat:=by
 unfold fl;refine ((U2 hg).filter (fun s=>dt s.owner m)).imp_of_mem ?_;intro a b ha hb hab;have h1:=(List.mem_filter.1 ha).2;have h2:=(List.mem_filter.1 hb).2;simp only [dt,decide_eq_true_eq] at h1 h2;have hs:dt a.owner b.owner=true:=by unfold dt;exact zp (h1.trans h2.symm)
 rcases K0.1 hab with q|q
 ·have:=Jn.2 hs;omega
 ·exact q.2
theorem als {z:ay} (hg:G2 z) (n:Name):z.ak.filter (sj n)=iq 1 (fl z n)++iq 28 (fl z n):=by
 have h1:u0 1=fun s=>decide ((s.type.toNat:Int)=1):=by funext s;unfold u0;rfl
 have lH:u0 28=fun s=>decide ((s.type.toNat:Int)=28):=by funext s;unfold u0;rfl
 unfold iq;rw [h1,lH,<- ad2 (aEi hg n)];unfold fl;rw [List.filter_filter];rfl
set_option maxHeartbeats 4000000 in
theorem az6 (z:ay) (l:List Name) (hz:bo z) (he:fp z=0) (hl:j5 l):wl PP [aj3,Z4] 0 (Tryz.f62.body.getD .skip) (c9 PP Tryz.f62.results.toList (fun r st=>(r1 (cg ag)).get true st.h r=some (vr z l))) (cp 0 [bf.val false z,(cg aj).val false l]) (bg []):=by
 have hq:∀ a b c d,ft a b c=d->ft a b c=d:=fun _ _ _ _ h=>h
 have hzl:=H5 he;have hlen:=hl.len;have hg:=Co he;have qC:=F7 z l [];have lY:l.length * z.ak.length<=16777216 * 2048:=Nat.mul_le_mul hlen hzl;unfold Tryz.f62;simp only [dy];simp only [↓wR,zT,simprocAttr];refine fg [1,2,6,5] (fun (x:Nat × List ba)=>[zv l,.ptr 0 0,zi x.1,.sl 1 0 x.2.length 5]) (fun x=>[(zZ z),some (.row (cellsOf ag true ((x.2))) 0 0 63)]) (fun x=>x.1<=l.length/\x.2++qn z (l.take x.1) (l.drop x.1)=vr z l) (fun x=>l.length - x.1) (0,[]) ⟨zzb _,by rw [List.take_zero,List.drop_zero];rfl⟩ zX ?_;rintro ⟨i,x⟩ ⟨hi,hx⟩;simp only at hi hx;simp only [↓wR,zT,simprocAttr];rw [bh];refine ⟨fun h=>?_,fun h=>?_⟩
 ·obtain ⟨n,hc,aF,hlt⟩:=du (zp h);rw [ajl hc] at hx;have bV:=hl.mem n (zm hc);have qD:(l.take i).length<=16777216:=by rw [zzl];omega
  have vX:∀ m ∈ l.take i,aw m:=fun m hm=>hl.mem m (zzr hm)
  have bY:x.length<=16777216 * 2048:=by have h2:=congrArg List.length hx;rw [za] at h2;unfold vr at h2;omega
  have hat:(fl z n).length<=z.ak.length:=n5 _;have wA:(iq 1 (fl z n)).length<=2048:=zzu (n5 _) zO;have vZ:(iq 28 (fl z n)).length<=2048:=zzu (n5 _) zO;have bE:i<=16777216:=zO;simp only [↓wR,zT,simprocAttr,h];refine ⟨zK,.inl ?_⟩;simp only [↓wR,zT,simprocAttr,hi,bE,hc,Cj,qD,eq_true vX,bV];refine ⟨by apply hq;kernel_rfl,?_⟩;rw [cw];refine ⟨fun h2=>?_,fun h2=>?_⟩
  ·have h2':((l.take i).any fun m=>dt m n)=true:=h2;rw [if_pos h2',List.nil_append] at hx
   repeat (first|simp only [↓wR,zT,simprocAttr,h2]|simp (disch:=omega) only [zW])
   exact ⟨(i+1,x),⟨hlt,hx⟩,by simp;omega,zF,rfl⟩
  ·have h2':((l.take i).any fun m=>dt m n)=false:=h2;rw [if_neg (by rw [h2'];decide),als hg n] at hx;have c1:ky PP 92 [.vl true 5 ((fl z n).map (ag.val true)),.sc (.int .u16 1)] (bg []) (fun r st'=>r = .sl 0 0 (iq 1 (fl z n)).length 5/\st'=bg [some (.row (cellsOf ag true ((iq 1 (fl z n)))) 0 0 63)]):=uz (fl z n) 1 zO;have c2:ky PP 92 [.vl true 5 ((fl z n).map (ag.val true)),.sc (.int .u16 28)] (bg []) (fun r st'=>r = .sl 0 0 (iq 28 (fl z n)).length 5/\st'=bg [some (.row (cellsOf ag true ((iq 28 (fl z n)))) 0 0 63)]):=uz (fl z n) 28 zO;obtain ⟨A,hA⟩:∃ A,A=iq 1 (fl z n):=⟨_,rfl⟩;obtain ⟨B,hB⟩:∃ B,B=iq 28 (fl z n):=⟨_,rfl⟩;rw [<- hA] at c1 wA hx;rw [<- hB] at c2 vZ hx;simp only [↓wR,zT,simprocAttr,h2];refine ⟨zK,.inl ?_⟩;simp only [↓wR,zT,simprocAttr,hc,A2,hz,bV];refine ⟨by apply hq;kernel_rfl,?_⟩;refine pf [] c1 (by decide) (by simp only [↓wR,zT,simprocAttr]) (by simp only [↓wR,zT,simprocAttr]) (zB rfl) (by simp only [↓wR,zT,simprocAttr]) (by simp only [↓wR,zT,simprocAttr]) ⟨zB rfl,zB rfl⟩ ?_;have bR:(x.length * 5+A.length * 5) * 56<=140737488355328:=zO;have e1:x.length+A.length=(x++A).length:=List.length_append.symm;have e2:cellsOf ag true x++cellsOf ag true A=cellsOf ag true (x++A):=by unfold cellsOf;rw [List.flatMap_append]
   simp only [↓wR,zT,simprocAttr,gq,m7,qe,qj,Bc,bR];rw [e1,e2];have sI:(x++A).length<=16777216 * 2048+2048:=by rw [za];omega
   have hx3:(x++A)++(B++qn z (l.take (i+1)) (l.drop (i+1)))=vr z l:=by rw [<- hx];simp only [zzc]
   generalize x++A=Y at sI hx3 ⊢;have bQ:(Y.length * 5+B.length * 5) * 56<=140737488355328:=zO;refine pf [] c2 (by decide) (by simp only [↓wR,zT,simprocAttr]) (by simp only [↓wR,zT,simprocAttr]) (zB rfl) (by simp only [↓wR,zT,simprocAttr]) (by simp only [↓wR,zT,simprocAttr]) ⟨zB rfl,zB rfl⟩ ?_
   repeat (first|simp only [↓wR,zT,simprocAttr,gq,m7,qe,qj,Bc,bQ]|simp (disch:=omega) only [zW])
   refine ⟨(i+1,Y++B),⟨hlt,by rw [zzc];exact hx3⟩,by simp;omega,zF,?_⟩;unfold cellsOf;rw [List.flatMap_append]
 ·rw [eu (zq h),qn,zzn] at hx;subst hx;simp only [↓wR,zT,simprocAttr,h]
noncomputable def Li (x:ay × List Name × Unit):Option AV:=if (bo x.1/\fp x.1=0)/\j5 x.2.1 then some ((r1 (cg ag)).E true (vr x.1 x.2.1)) else none
theorem aq5 (x:ay × List Name × Unit) (r:AV) (h:Li x=some r):bj PP 62 ((aC bf (aC (cg aj) a0)).E x) r:=by obtain ⟨hc,rfl⟩:=zI h;exact az (ar.cons (aq Uk) (ar.cons (aq Dh) (ar.nil PP))) Tryz.func62 zK zK zK zL (r1 (cg ag)) true (vr x.1 x.2.1) (az6 x.1 x.2.1 hc.1.1 hc.1.2 hc.2)
noncomputable abbrev aCo:zE:=(62,true,cx (aC bf (aC (cg aj) a0)) Li)
def z9 (l:List ba):Bool:=l.all fun s=>!pj s || s.data.all fun d=>decide (d.names.length=1)
theorem ak3 {l:List ba} (h:z9 l=true):∀ s ∈ l,pj s=true->∀ d ∈ s.data,∃ m,d.names=[m]:=fun s hs hT d hd=>by
 have h1:=zz8.1 h s hs;rw [hT] at h1;simp only [Bool.not_true,Bool.false_or] at h1;have h2:=of_decide_eq_true (zz8.1 h1 d hd)
 match hn:d.names,h2 with
 | [m],_=>exact ⟨m,rfl⟩
theorem atx {l:List ba} {i:Nat} {c:ba} (h:l.drop i=c::l.drop (i+1)):dz (l.drop i)=lr c++dz (l.drop (i+1)):=by rw [h];simp [dz]
theorem ajx {l:List cq} {i:Nat} {d:cq} {m:Name} (h:l.drop i=d::l.drop (i+1)) (hm:d.names=[m]):ib (l.drop i)=m::ib (l.drop (i+1)):=by rw [h];simp [ib,hm]
set_option maxHeartbeats 4000000 in
theorem amo (l:List ba) (hl:l.length<=16777216/\∀ s ∈ l,s.data.length<=16777216) (ho:z9 l=true) (hn:j5 (dz l)):wl PP [] 0 (Tryz.f115.body.getD .skip) (c9 PP Tryz.f115.results.toList (fun r st=>(r1 (cg aj)).get false st.h r=some (dz l))) (cp 0 [(cg ag).val false l]) (bg []):=by
 have hlen:=hl.1;have hnl:=hn.len;unfold Tryz.f115;simp only [l5];simp only [↓wR,zT,simprocAttr];refine fg [0,4,3] (fun (x:Nat × List Name)=>[zs l,zi x.1,.sl 0 0 x.2.length 1]) (fun x=>[some (.row ((x.2).map (aj.val false)) 0 0 23)]) (fun x=>x.1<=l.length/\x.2++dz (l.drop x.1)=dz l) (fun x=>l.length - x.1) (0,[]) ⟨zzb _,rfl⟩ zX ?_;rintro ⟨i,x⟩ ⟨hi,hx⟩;simp only at hi hx;simp only [↓wR,zT,simprocAttr];rw [bh];refine ⟨fun h=>?_,fun h=>?_⟩
 ·obtain ⟨c,hc,aF,hlt⟩:=du (zp h);have hcm:=zm hc;have xP:=hl.2 c hcm;rw [atx aF] at hx;have bE:i<=16777216:=zO;cases hT:pj c with
  |false=>
   have bV:lr c=[]:=by unfold lr;rw [hT];rfl
   rw [bV,List.nil_append] at hx;unfold pj at hT;simp only [Bool.or_eq_false_iff,decide_eq_false_iff_not] at hT;obtain ⟨t1,t2,t3⟩:=hT;have b1:((c.type.toNat:Int) != 2)=true:=by simp [t1]
   have b2:((c.type.toNat:Int) != 15)=true:=by simp [t2]
   have b3:((c.type.toNat:Int) != 33)=true:=by simp [t3]
   repeat (first|simp only [↓wR,zT,simprocAttr,h,hc,b1,b2,b3]|simp (disch:=omega) only [zW])
   exact ⟨(i+1,x),⟨hlt,hx⟩,by simp;omega,zF,rfl⟩
  |true=>
   have bV:lr c=ib c.data:=by unfold lr;rw [hT];rfl
   have wM:=ak3 ho c hcm hT;rw [bV] at hx;unfold pj at hT;simp only [Bool.or_eq_true,decide_eq_true_eq] at hT;rcases hT with t1|t2|t3
   have b1:((c.type.toNat:Int) != 2)=false:=by simp [t1]
   simp only [↓wR,zT,simprocAttr,h,hc,b1];rotate_left;have b1:((c.type.toNat:Int) != 2)=true:=by simp [t2]
   have b2:((c.type.toNat:Int) != 15)=false:=by simp [t2]
   simp only [↓wR,zT,simprocAttr,h,hc,b1,b2];rotate_left;have b1:((c.type.toNat:Int) != 2)=true:=by simp [t3]
   have b2:((c.type.toNat:Int) != 15)=true:=by simp [t3]
   have b3:((c.type.toNat:Int) != 33)=false:=by simp [t3]
   simp only [↓wR,zT,simprocAttr,h,hc,b1,b2,b3];rotate_left
   all_goals
    refine fg [0,4,5,3] (fun (y:Nat × List Name)=>[zs l,zi i,zi y.1,.sl 0 0 y.2.length 1]) (fun y=>[some (.row ((y.2).map (aj.val false)) 0 0 23)]) (fun y=>y.1<=c.data.length/\y.2++(ib (c.data.drop y.1)++dz (l.drop (i+1)))=dz l) (fun y=>c.data.length - y.1) (0,x) ⟨zzb _,by simpa using hx⟩ zX ?_;rintro ⟨j,y⟩ ⟨hj,hy⟩;simp only at hj hy;simp only [↓wR,zT,simprocAttr,hc];rw [bh];refine ⟨fun h3=>?_,fun h3=>?_⟩
    ·obtain ⟨d,hd,pG,hlt3⟩:=du (zp h3);obtain ⟨m,hm⟩:=wM d (zm hd);rw [ajx pG hm] at hy;have jO:(y.length+1) * 24<=140737488355328:=by have:=congrArg List.length hy;simp only [za,List.length_cons] at this;omega
     repeat (first|simp only [↓wR,zT,simprocAttr,h3,hc,hd,hm,jO]|simp (disch:=omega) only [zW])
     exact ⟨(j+1,y++[m]),⟨hlt3,by simpa using hy⟩,by simp;omega,zF,by simp⟩
    ·rw [eu (zq h3),show ib []=[] from rfl,List.nil_append] at hy
     repeat (first|simp only [↓wR,zT,simprocAttr,h3]|simp (disch:=omega) only [zW])
     exact ⟨(i+1,y),⟨hlt,hy⟩,by simp;omega,zF,rfl⟩
 ·rw [eu (zq h),show dz []=[] from rfl,zzn] at hx;subst hx;simp only [↓wR,zT,simprocAttr,h]
noncomputable def Cf (x:List ba × Unit):Option AV:=if (x.1.length<=16777216/\∀ s ∈ x.1,s.data.length<=16777216)/\z9 x.1=true/\j5 (dz x.1) then some ((r1 (cg aj)).E false (dz x.1)) else none
theorem afp (x:List ba × Unit) (r:AV) (h:Cf x=some r):bj PP 115 ((aC (cg ag) a0).E x) r:=by obtain ⟨hc,rfl⟩:=zI h;exact az (ar.nil PP) Tryz.func115 zK zK zK zL (r1 (cg aj)) false (dz x.1) (amo x.1 hc.1 hc.2.1 hc.2.2)
noncomputable abbrev aku:zE:=(115,true,cx (aC (cg ag) a0) Cf)
end Go.Proofs.YtjagjbceegbaiaaGreat
end
namespace Go.Vm
variable [TK]
noncomputable section
theorem avp {P:Program} [KP P] {T:fc} (hT:ar P T) (hm:P.follows .mixedOrders=true) {N:Nat} {B:fi} {nt:NT} (aG:B.k6) (p:Nat) (hp:p<=1000) (tS:B.be<=p) (aN:B.n0<=B.w.heap.size) {X:Exit->Act->World->Prop} {Q:QL} {c:Code} (hs:ey nt c=true)
 (hX:∀ e L' st' g' a' w',Q e L' st'->gj B nt L' st' g' a' w'->X (uo e) a' w') {L st g a w} (iR:p<=st.nx) (h:wl P T p c Q L st) (hh:gj B nt L st g a w):c.wpIn (fu none) N P X a w:=by
 have hc1:kz { ku g st.h w p (fun _=>False) with n0:=B.n0,D:=B.D } g st w:=(hh.cur.Po p (fun _=>False) iR (fun o h=>(aG o h).elim)).n0;refine wpIn_mono (af2 hT hm (N:=N) (B:={ ku g st.h w p (fun _=>False) with n0:=B.n0,D:=B.D }) (nt:=nt) (fun _ h=>h) hp (zzu aN hh.cur.base.size) c hs Q L st g w a h hc1 hh.sl hh.Cc) ?_;rintro ex a' w' ⟨e,L',st',g',rfl,hq,hc',hr',bA⟩;have hb:=hc'.base.aDd (B:=ku g st.h w p (fun _=>False));exact hX e L' st' g' a' w' hq ⟨⟨hc'.ok,fun o h1 _=>hc'.fresh o h1 (fun h=>h),hh.cur.base.comp hb tS (fun o h=>(aG o h).elim) (fun _ h=>h.elim),zzu tS hc'.be⟩,hr',bA⟩
theorem dx.app {h:Tr bp} {l m l' m':List AV} (h1:dx h l m) (h2:dx h l' m'):dx h (l++l') (m++m'):=by
 induction h1 with
 |nil=>exact h2
 |cons a _ ih=>exact .cons a ih
end
variable [TK]
theorem ane {P:Program} {f:Nat} {args:List AV} {os0 os1 os2:List (Option bp)} {r0 r1:AV} (h:ky P f args (bg os0) (fun r st'=>r=r0/\st'=bg os1)) (rE:os0.length<=os1.length) (hle:os0.length<=os2.length) (hw:ir os0.length [r0] os1 [r1] os2):ky P f args (bg os0) (fun r st'=>r=r1/\st'=bg os2):=by
 intro g w vs aB hfr hrel;have key:∀ v w' g1,Step g (bg os0).h w os0.length os1.length g1 (bg os1).h w'->Ok g1 (bg os1).h w'->Rel g1 w' r0 v->∃ g2,Step g (bg os0).h w os0.length os2.length g2 (bg os2).h w'/\Ok g2 (bg os2).h w'/\Rel g2 w' r1 v:=by
  intro v w' g1 s oK hr;have rT:∀ o,os1.length<=o->g1.inj o=none:=fun o ho=>s.fresh o (hfr o (zzu rE ho)) (fun q=>by omega)
  obtain ⟨g2,a1,a2,a3,a4,a5,a6,a7,a8⟩:=hw.2.2 g1 w' [v] oK rT ⟨rfl,fun i a x ha hx=>by
   match i,ha,hx with
   |0,ha,hx=>cases ha;cases hx;exact hr
   |i+1,ha,hx=>cases ha⟩
  refine ⟨g2,⟨⟨a3.trans s.ext.b0,fun o p hp=>?_,fun b j q=>a6 b j (s.ext.K b j q),s.ext.cell,s.ext.ta,s.ext.lp,s.ext.whole⟩,s.size,s.os,s.tape,s.output,s.frame,fun o ho hn=>?_,fun o b base q1 q2=>?_,fun b j q=>?_⟩,a1,a2.2 0 _ _ rfl rfl⟩
  ·by_cases h1:o<os0.length
   ·rw [a5 o h1];exact s.ext.inj o p hp
   ·rw [hfr o (Nat.le_of_not_lt h1)] at hp;cases hp
  ·by_cases h1:o<os0.length
   ·rw [a5 o h1];exact s.fresh o ho (fun q=>by omega)
   ·exact a4 o zO
  ·obtain ⟨o2,aK,c1,c2⟩:=a7 o b base q1 q2;rcases s.own o2 b aK c1 c2 with d|⟨o3,oH,d1,d2⟩
   ·exact .inl d
   ·exact .inr ⟨o3,oH,d1,d2⟩
  ·rcases a8 b j q with c|⟨o,base,c1,c2⟩
   ·exact s.ox b j c
   ·rcases s.own o b base c1 c2 with d|d
    ·exact .inr (.inl d)
    ·exact .inr (.inr d)
 rcases h g w vs aB hfr hrel with ⟨v,w',g',r,st',q1,⟨rfl,rfl⟩,q3,q4,q5,q6⟩|⟨q1,q2⟩
 ·obtain ⟨g2,c1,c2,c3⟩:=key v w' g' q4 q5 q6;exact .inl ⟨v,w',g2,_,_,q1,⟨rfl,rfl⟩,hle,c1,c2,c3⟩
 ·refine .inr ⟨q1,q2.mono ?_⟩;rintro e w' ⟨v,g',r,st',rfl,⟨rfl,rfl⟩,q3,q4,q5,q6⟩;obtain ⟨g2,c1,c2,c3⟩:=key v w' g' q4 q5 q6;exact ⟨v,g2,_,_,rfl,⟨rfl,rfl⟩,hle,c1,c2,c3⟩
theorem aBs {P:Program} [KP P] {f:Nat} {args:List AV} {m:M AV}
 (h:∀ st r st',m st=some (r,st')->st'=st/\r.de (fun _=>none)=r/\∃ o cells k s et,st.h.get o=some (.row cells k s et)/\(∀ σ,AV.de.go σ cells=cells)/\ky P f (AV.de.go (fun p=>idx [o] p 0) args) (bg [some (.row cells k s et)]) (fun r' pS=>r'=r/\pS=bg [some (.row cells k s et),none])):Cr P f args m:=by
 intro g st w vs r st' aB _ hrel hm;obtain ⟨rfl,hcr,o,cells,k,s,et,ho,eP,hc⟩:=h st r st' hm;have hτ:∀ q p,(fun q=>idx [o] q 0) q=some p->([o]:List Nat)[p]? = some q:=fun q p h=>Em _ q p h
 have hcl:Sp cells:=eP _;have cS:∀ l:List (Option bp),l=[some (.row cells k s et)]\/l=[some (.row cells k s et),none]->∀ i x,(bg l).h.get i=some x->i=0/\x = .row cells k s et:=by
  rintro l (rfl|rfl) i x hx
  ·rw [Hp _ (zB rfl)] at hx
   match i,hx with
   |0,hx=>exact ⟨rfl,by simpa using hx.symm⟩
   |i+1,hx=>simp at hx
  ·rw [Hp _ (zB rfl)] at hx
   match i,hx with
   |0,hx=>exact ⟨rfl,by simpa using hx.symm⟩
   |1,hx=>simp at hx
   |i+2,hx=>simp at hx
 have hg0:(g.de [o]).inj 0=g.inj o:=by simp [Gh.de]
 have hgn:∀ i,i≠0->(g.de [o]).inj i=none:=fun i hi=>by
  match i,hi with
  |i+1,_=>simp [Gh.de]
 have fR:Ok (g.de [o]) (bg [some (.row cells k s et)]).h w:=by
  refine ⟨aB.size,fun i x hx=>?_,fun i j x y b base base' dK hx hy _ _=>?_,aB.K⟩
  ·obtain ⟨rfl,rfl⟩:=cS _ (.inl rfl) i x hx;refine (aB.oa o _ ho).imp (fun q=>⟨by rw [hg0];exact q.1,q.2⟩) ?_;rintro ⟨b,base,q1,q2,q3⟩;exact ⟨b,base,by rw [hg0];exact q1,q2,q3.de hτ (by simp only [bp.de];rw [eP])⟩
  ·obtain ⟨rfl,_⟩:=cS _ (.inl rfl) i x hx;obtain ⟨rfl,_⟩:=cS _ (.inl rfl) j y hy;exact (dK rfl).elim
 have hfr0:∀ i,(bg [some (.row cells k s et)]).nx<=i->(g.de [o]).inj i=none:=fun i hi=>hgn i (by have : 1<=i:=hi;omega)
 have fO:cb (g.de [o]) w (AV.de.go (fun p=>idx [o] p 0) args) vs:=by
  rw [jt];refine ⟨by rw [zzo];exact hrel.1,fun i a v ha hv=>?_⟩;rw [zzj] at ha;cases hx:args[i]? with
  |none=>rw [hx] at ha;cases ha
  |some a0=>rw [hx] at ha;cases ha;exact (hrel.2 i a0 v hx hv).de hτ
 have key:∀ v w' g1,Step (g.de [o]) (bg [some (.row cells k s et)]).h w 1 2 g1 (bg [some (.row cells k s et),none]).h w'->Ok g1 (bg [some (.row cells k s et),none]).h w'->Rel g1 w' r v ->
  ∃ g',Step g st'.h w st'.nx st'.nx g' st'.h w'/\Ok g' st'.h w'/\Rel g' w' r v:=by
  intro v w' g1 q oK hr;have hb0:g1.b0=g.b0:=q.ext.b0;have e0:g1.inj 0=g.inj o:=by
   cases hgo:g.inj o with
   |none=>exact q.fresh 0 (by rw [hg0];exact hgo) (fun q=>by omega)
   |some p=>exact q.ext.inj 0 p (by rw [hg0];exact hgo)
  have hown:∀ i b base,((bg [some (.row cells k s et)]).h.get i).isSome=true->(g.de [o]).inj i=some (b,base)->g.inj o=some (b,base):=fun i b base h1 h2=>by obtain ⟨x,hx⟩:=zzv.1 h1;obtain ⟨rfl,_⟩:=cS _ (.inl rfl) i x hx;rw [hg0] at h2;exact h2
  have hsome:(st'.h.get o).isSome=true:=by rw [ho];rfl
  obtain ⟨g',rP⟩:∃ g':Gh,g' = { g with K:=g1.K }:=⟨_,rfl⟩;have i':g'.inj=g.inj:=by rw [rP]
  have k':g'.K=g1.K:=by rw [rP]
  have b':g'.b0=g.b0:=by rw [rP]
  have hE:Ext g w g' w':=⟨b',fun p x hp=>by rw [i'];exact hp,fun b j h=>by rw [k'];exact q.ext.K b j h,q.ext.cell,q.ext.ta,q.ext.lp,q.ext.whole⟩;have hL:Sh g1 w' g' w':=Sh.more (b'.trans hb0.symm) (fun b j h=>by rw [k'];exact h);refine ⟨g',⟨hE,q.size,q.os,q.tape,q.output,fun b hb hn=>q.frame b hb (fun i base h1 h2=>hn o base hsome (hown i b base h1 h2)),fun p hp _=>by rw [i'];exact hp,fun p b base h1 h2=>.inr ⟨p,base,h1,by rw [i'] at h2;exact h2⟩,fun b j hk=>?_⟩,⟨by rw [b'];exact zzu aB.size q.size,fun p x hx=>?_,fun p p' x x' b base base' hne hx hx' hi hi'=>?_,fun b j hk=>oK.K b j (by rw [k'] at hk;exact hk)⟩,hr.plain hcr hL⟩
  ·rw [k'] at hk;rcases q.ox b j hk with h1|h1|⟨i,base,h1,h2⟩
   ·exact .inl h1
   ·exact .inr (.inl h1)
   ·exact .inr (.inr ⟨o,base,hsome,hown i b base h1 h2⟩)
  ·by_cases tQ:p=o
   ·subst tQ;rw [ho] at hx;cases hx;have:=oK.oa 0 (.row cells k s et) (by rw [Hp _ (zB rfl)];rfl);refine this.imp (fun z=>⟨by rw [i',<- e0];exact z.1,z.2⟩) ?_;rintro ⟨b,base,z1,z2,z3⟩;exact ⟨b,base,by rw [i',<- e0];exact z1,by rw [b',<- hb0];exact z2,avg hcl hL rfl (fun j hj=>by rw [k'] at hj;exact hj) z3⟩
   ·refine (aB.oa p x hx).imp (fun z=>⟨by rw [i'];exact z.1,z.2⟩) ?_;rintro ⟨b,base,z1,z2,z3⟩;have hlt:=z3.lt;have kA:∀ i base',((bg [some (.row cells k s et)]).h.get i).isSome=true->(g.de [o]).inj i≠some (b,base'):=fun i base' h1 h2=>by
     exact aB.sep p o x _ b base base' tQ hx ho z1 (hown i b base' h1 h2)
    refine ⟨b,base,by rw [i'];exact z1,by rw [b'];exact z2,z3.ext hE (q.frame b hlt kA) (fun j hj=>?_)⟩;rw [k'] at hj;rcases q.ox b j hj with h1|h1|⟨i,base',h1,h2⟩
    ·exact h1
    ·omega
    ·exact (kA i base' h1 h2).elim
  ·rw [i'] at hi hi';exact aB.sep p p' x x' b base base' hne hx hx' hi hi'
 rcases hc (g.de [o]) w vs fR hfr0 fO with ⟨v,w',g',r1,gp,q1,⟨rfl,rfl⟩,q3,q4,q5,q6⟩|⟨q1,q2⟩
 ·obtain ⟨g2,c1,c2,c3⟩:=key v w' g' q4 q5 q6;exact .inl ⟨v,w',g2,q1,c1,c2,c3⟩
 ·refine .inr ⟨q1,q2.mono ?_⟩;rintro e w' ⟨v,g',r1,gp,rfl,⟨rfl,rfl⟩,q3,q4,q5,q6⟩;obtain ⟨g2,c1,c2,c3⟩:=key v w' g' q4 q5 q6;exact ⟨v,g2,rfl,c1,c2,c3⟩
end Go.Vm
