/- A piece of the proof of the law ZoneMakes: lemmas. No condition. -/
import Derived.Test.YtjagjbceegbaiaaGreatProg
import Derived.Test.YtjagjbceegbaiaaGreatRows
import Derived.Test.YtjagjbceegbaiaaGreatM3
set_option linter.unusedSimpArgs false
set_option linter.unusedVariables false
set_option linter.unusedSectionVars false
set_option maxRecDepth 2000000
namespace Go.Vm
variable [TK]
noncomputable section
theorem atl {o:Oper} {f:Nat} {d:Option Nat} {args:List Nat} (h:Dt { o with guard:=none }=some (d,f,args)):∃ ts pos af ty gd,o=⟨d,.call { callee:=.value (.func f),args:=(args.map Operand.tmp).toArray,argTypes:=ts },ty,pos,af,gd⟩:=by obtain ⟨ts,pos,af,ty,e⟩:=adn h;obtain ⟨dst,op,ty',pos',EJ,gd⟩:=o;simp only [Oper.mk.injEq] at e;obtain ⟨rfl,rfl,rfl,rfl,rfl,_⟩:=e;exact ⟨ts,_,_,_,_,rfl⟩
theorem aab {P:Program} [KP P] {T:fp} (hT:ak P T) {B:dz} {nt:NT} (aF:B.iw) {N:Nat} {ops:Array Oper} {l1 l2:List Oper} {o:Oper} {K:SL->St->Prop} {X:Exit->Act->World->Prop} {L st g a w} (hg:n5 nt ops=true) (hd:sj nt ops=true) (hm:∀ o ∈ l1,o ∈ ops) (dY:o ∈ ops)
 {f:Nat} {args:List Nat} {d:Option Nat} (hl:Dt { o with guard:=none }=some (d,f,args)) (he:qk P f=true)
 (h:opsL P T ops l1 K L st) (hh:ew B nt L st g a w)
 (hgo:∀ L' st',K L' st'->guarded ops L' o.guard True False)
 (hK:∀ L' st' g' a' w',K L' st'->ew B nt L' st' g' a' w'->Calls P f (args.map fun t=>a'.tmps.getD t undef).toArray w' (fun e w''=>∃ r,e = .returned r/\∀ a'',a''.defers=a'.defers->a''.tmps.size=a'.tmps.size->(∀ t,d≠some t->a''.tmps.getD t undef=a'.tmps.getD t undef)->(∀ dd,d=some dd->a''.tmps.getD dd undef=r)->A8 P N ops l2 X a'' w'')) :
 A8 P N ops (l1++o::l2) X a w:=by
 obtain ⟨ts,pos,af,ty,gd,rfl⟩:=atl hl;have key:∀ (l:List Oper) (is:List Nat),(∀ o ∈ l,o ∈ ops)->is.map (fun i=>ops[i]?)=(l++(⟨d,.call { callee:=.value (.func f),args:=(args.map Operand.tmp).toArray,argTypes:=ts },ty,pos,af,gd⟩:Oper)::l2).map some->∀ L st g a w,opsL P T ops l K L st->ew B nt L st g a w->wpOpsIn (fw none) N P ops X is a w:=by
  intro l
  induction l with
  |nil=>
   intro is _ aK L st g a w h hh;rw [List.nil_append] at aK
   match is,aK with
   |i::is,aK=>
    simp only [List.map_cons,List.cons.injEq] at aK;obtain ⟨hi,aK⟩:=aK;have hK':=hK L st g a w h hh;simp only [wpOpsIn,hi];have hw:Region.wanted (⟨d,.call { callee:=.value (.func f),args:=(args.map Operand.tmp).toArray,argTypes:=ts },ty,pos,af,gd⟩:Oper) (yielded ops a.tmps)=true:=by
     rcases zf hh.sl (Be hg dY) (hgo L st h) with ⟨q,_⟩|⟨_,q⟩
     ·exact q
     ·exact q.elim
    rw [hw,if_pos rfl];refine ⟨ll none P _ a w,?_⟩;rw [Oper.semAt_eq _ _ _ (by intro c e;cases e)];have hrun:(execOp a.eval (⟨d,.call { callee:=.value (.func f),args:=(args.map Operand.tmp).toArray,argTypes:=ts },ty,pos,af,gd⟩:Oper)).run P w=(callFunc f (args.map fun t=>a.tmps.getD t undef).toArray).run P w:=by
     rw [Fl (h:=f) (first:=#[]) (captured:=#[]) (f:=.func f) rfl rfl]
     congr 2
     apply Array.ext';simp [Act.eval]
    rw [hrun,ur he];refine ⟨(fun h=>(by cases h)),(ss (ro:=none) (n:=N - 1) hK').mono ?_⟩;rintro e w' ⟨r,rfl,hX⟩;have hdd:=fun dd (e:d=some dd)=>nh hd dY dd e
    show wpOpsIn (fw none) N P ops X is (a.put d r) w';refine hX _ (put_defers _ _ _) ?_ (fun t ht=>?_) (fun dd e=>?_) is aK
    ·cases d with
     |none=>rfl
     |some dd=>show (a.tmps.setIfInBounds dd r).size=_;simp
    ·cases d with
     |none=>rfl
     |some dd=>
      have hne:dd≠t:=fun e=>ht (by rw [e])
      show (a.tmps.setIfInBounds dd r).getD t undef=a.tmps.getD t undef;rw [zze,zzz,if_neg hne,zze]
    ·subst e;have:=(NT.Jm (hdd dd rfl)).1;show (a.tmps.setIfInBounds dd r).getD dd undef=r;rw [zze,zzz,if_pos rfl,if_pos (by rw [hh.sl.1.size];exact this)];rfl
   | [],aK=>cases aK
  |cons o l ih=>
   intro is hmem aK L st g a w h hh;obtain ⟨hc,hr,cH⟩:=hh;cases is with
   |nil=>cases aK
   |cons i is=>
    simp only [List.cons_append,List.map_cons,List.cons.injEq] at aK;obtain ⟨hi,aK⟩:=aK;have ho:=hmem o (by simp);simp only [wpOpsIn,hi];rcases zf hr (Be hg ho) h with ⟨hw,h1⟩|⟨hw,h1⟩
    ·rw [hw,if_pos rfl];unfold Pf En at h1;cases hop:il P T o (eu L) st with
     |none=>
      rw [hop] at h1;refine J0 hc.ok (fun o ho=>hc.fresh o ho (aF o)) hr.eval h1 none N _ _ ?_;rintro u w' ⟨g',v,st',q0,q1,q2,q3,q4⟩;exact ih is (fun o ho=>hmem o (by simp [ho])) aK _ st' g' _ w' q0 ⟨hc.step (aF.vw _ _) ⟨q1,q2⟩ q3,(hr.ext q2.ext).put q4 (nh hd ho),by rw [put_defers];exact cH.step q2⟩
     |some p=>
      obtain ⟨v,st'⟩:=p;rw [hop] at h1;refine Gg hT hc.ok (hc.free (aF.vw _ _)) hr.eval hop none N _ _ ?_;rintro u w' ⟨g',q1,q2,q3⟩;exact ih is (fun o ho=>hmem o (by simp [ho])) aK _ st' g' _ w' h1 ⟨hc.step (aF.vw _ _) ⟨A2 hop,q1⟩ q2,(hr.ext q1.ext).put q3 (nh hd ho),by rw [put_defers];exact cH.step q1⟩
    ·rw [hw,if_neg (by simp)];refine ⟨ll none P o a w,?_⟩;exact ih is (fun o ho=>hmem o (by simp [ho])) aK _ st g _ w h1 ⟨hc,hr.put (.sc _) (nh hd ho),by rw [put_defers];exact cH⟩
 intro is aK;exact key l1 is hm aK L st g a w h hh
end
end Go.Vm
section
namespace Go.Proofs.YtjagjbceegbaiaaGreat
open Go.Vm
theorem ase (s:aw) (hs:cw s):wl PP [nc,qg] 0 (Tryz.f81.body.getD .skip) (di PP Tryz.f81.results.toList (fun r st=>(r1 aj).get true st.h r=some s)) (cj 0 [aj.val false s]) (ay []):=by
 have ho:=hs.owner;have hd:=hs.data;have hn:=hd.len;unfold Tryz.f81;simp only [ji];simp only [↓wR,zT,simprocAttr,rm,ho];refine i9 [2,13,14,15,3] (fun (x:List bp)=>[.ptr 0 0,zd s.data,zi s.data.length,zi x.length,.ptr 1 0]) (fun x=>[some (.row [.sc (.slice none 0 0),.sc (.int .u16 0),.sc (.int .u16 0),.sc (.int .u32 0),.sc (.slice none 0 0)] 0 2 63),some (.row [au.val true s.owner,.sc (.int .u16 s.type.toNat),.sc (.int .u16 s.cls.toNat),.sc (.int .u32 s.b9.toNat),.sl 2 0 x.length 4] 0 2 63),some (.row (cellsOf ai true x) 0 0 116)]) (fun x=>x.length<=s.data.length/\x++s.data.drop x.length=s.data) (fun x=>s.data.length - x.length) [] ⟨zzb _,rfl⟩ zX ?_;rintro x ⟨hi,hx⟩;simp only [↓wR,zT,simprocAttr];rw [az];refine ⟨fun h=>?_,fun h=>?_⟩
 ·obtain ⟨c,hc,aH,hlt⟩:=fi (zp h);rw [aH] at hx;have hcs:=hd.mem c (zm hc);simp only [↓wR,zT,simprocAttr,h,hc];refine ⟨zK,.inl ?_⟩;have aD:(x.length * 4+4) * 96<=140737488355328:=zO;simp only [↓wR,zT,simprocAttr,u0,hcs,aD];refine ⟨zK,x++[c],⟨by simp;omega,by simpa using hx⟩,by simp;omega,zF,?_⟩;rw [tx,za];rfl
 ·rw [gz (zq h)] at hx;rw [zzn] at hx;subst hx;simp only [↓wR,zT,simprocAttr,h]
noncomputable def Ga (x:aw × Unit):Option AV:=if cw x.1 then some ((r1 aj).E true (x.1)) else none
theorem akq (x:aw × Unit) (r:AV) (h:Ga x=some r):bo PP 81 ((aC aj a0).E x) r:=by obtain ⟨hc,rfl⟩:=zI h;exact bf (ak.cons (aq ua) (ak.cons (aq H8) (ak.nil PP))) Tryz.func81 zK zK zK zL (r1 aj) true (x.1) (ase x.1 hc)
noncomputable abbrev aF2:zE:=(81,true,dg (aC aj a0) Ga)
def wtZ (z:cf):Nat:=br z.origin+dk og z.ar
def dj (z:cf):Prop:=wtZ z<=16777216
instance (z:cf):Decidable (dj z):=inferInstanceAs (Decidable (_<=_))
theorem dj.origin {z:cf} (h:dj z):bj z.origin:=by unfold dj wtZ at h;unfold bj;omega
theorem dj.set {z:cf} (h:dj z):∀ s ∈ z.ar,cw s:=fun s hs=>by have h1:og s<dk og z.ar:=u3 hs;unfold dj wtZ at h;unfold cw;omega
theorem dj.len {z:cf} (h:dj z):z.ar.length<=16777216:=by have:=I5 og z.ar;unfold dj wtZ at h;omega
def Fp (n top:Name):Bool:=decide (top.length<n.length) && jm n top
theorem aDq (n top:Name) (hn:bj n) (ht:bj top):wl PP [Sl] 0 (Tryz.f79.body.getD .skip) (di PP Tryz.f79.results.toList (fun r st=>(r1 bq).get true st.h r=some (Fp n top))) (cj 0 [au.val false n,au.val false top]) (ay []):=by
 unfold Tryz.f79;simp only [cr];simp only [↓wR,zT,simprocAttr];unfold Fp;rw [az];refine ⟨fun h=>?_,fun h=>?_⟩
 ·rw [zp (show top.length<n.length by omega)];simp only [↓wR,zT,simprocAttr,h,yq,hn,ht]
 ·rw [zq (show ¬ top.length<n.length by omega)];simp only [↓wR,zT,simprocAttr,h];rfl
noncomputable def N4 (x:Name × Name × Unit):Option AV:=if bj x.1/\bj x.2.1 then some ((r1 bq).E true (Fp x.1 x.2.1)) else none
theorem ao3 (x:Name × Name × Unit) (r:AV) (h:N4 x=some r):bo PP 79 ((aC au (aC au a0)).E x) r:=by obtain ⟨hc,rfl⟩:=zI h;exact bf (ak.cons (aq Ge) (ak.nil PP)) Tryz.func79 zK zK zK zL (r1 bq) true (Fp x.1 x.2.1) (aDq x.1 x.2.1 hc.1 hc.2)
noncomputable abbrev aJi:zE:=(79,true,dg (aC au (aC au a0)) N4)
def atV (z:cf) (n:Name):List aw:=z.ar.filter fun s=>gh s.owner n
def Fi (n:Name) (b:Option Name):Bool:=match b with|none=>true|some m=>decide (n.length<m.length)
def nq (z:cf) (n:Name) (dW:Option Name) (s:aw):Option Name:=
 if (decide ((s.type.toNat:Int)=2) && (Fp s.owner z.origin && (jm n s.owner && Fi s.owner dW)))=true then some s.owner else dW
def uu (z:cf) (n:Name):Option Name:=z.ar.foldl (nq z n) none
theorem afq {z:cf} {n:Name} (hz:dj z):∀ (l:List aw) (b:Option Name),(∀ s ∈ l,s ∈ z.ar)->(∀ m,b=some m->bj m)->∀ m,l.foldl (nq z n) b=some m->bj m:=by
 intro l
 induction l with
 |nil=>intro b _ hb m hm;exact hb m hm
 |cons s l ih=>
  intro b hl hb m hm;refine ih (nq z n b s) (fun x hx=>hl x (by simp [hx])) (fun q hq=>?_) m hm;unfold nq at hq
  split at hq
  ·cases hq;exact (hz.set s (hl s (by simp))).owner
  ·exact hb q hq
theorem aHp (z:cf) (n:Name) (hz:dj z) (hn:bj n):wl PP [Sl,aJi,nc] 0 (Tryz.f42.body.getD .skip) (di PP Tryz.f42.results.toList (fun r st=>(r2 au bq).get true st.h r=some ((uu z n).getD [],(uu z n).isSome))) (cj 0 [c7.val false z,au.val false n]) (ay []):=by
 have hl:=hz.len;unfold Tryz.f42;simp only [nk,cr];simp only [↓wR,zT,simprocAttr];refine cb (T:=[]) (ak.nil PP) mixed Tryz.func78 rfl zK zK zK zK ?_;unfold Tryz.f78;simp only [↓wR,zT,simprocAttr];refine ⟨[2,3,6,7,10],?_⟩;have hib:Gs PP 131=some (Tryz.f131.ntmps,Tryz.f131.body.getD .skip):=zK;simp only [↓wR,zT,simprocAttr,hib];refine ⟨zK,fun l=>?_⟩;unfold Tryz.f131;simp only [↓wR,zT,simprocAttr];refine ave [0,2,7,8,9] (fun (x:Nat × Option Name)=>[.sc (.func (.yield l) #[] #[]),.ptr 5 0,zs z.ar,zi z.ar.length,zi x.1]) (fun x=>[(zZ z),some (.row [zn n] 0 2 23),some (.row [.vl false 1 ((x.2.getD []).map (ah.val false))] 0 2 23),some (.row [.sc (.bool (x.2.isSome))] 0 2 4),(zZ z),some (.row [.sc (.int .u16 2)] 0 2 50)]) (fun x=>x.1<=z.ar.length/\uu z n=(z.ar.drop x.1).foldl (nq z n) x.2/\∀ m,x.2=some m->bj m) (fun x=>z.ar.length - x.1) (0,none) ⟨zzb _,rfl,fun m hm=>by cases hm⟩ zX ?_;rintro ⟨i,b⟩ ⟨hi,hx,hb⟩;simp only at hi hx hb;simp only [↓wR,zT,simprocAttr];rw [Bo];refine ⟨fun h=>?_,fun h=>?_⟩
 ·obtain ⟨c,hc,aH,hlt⟩:=fi h;have hcs:=hz.set c (zm hc);have hstep:uu z n=(z.ar.drop (i+1)).foldl (nq z n) (nq z n b c):=by rw [hx,aH];rfl
  simp only [↓wR,zT,simprocAttr,h,hc];rw [Bo];refine ⟨fun h2=>?_,fun h2=>?_⟩
  ·have e2:(c.type.toNat:Int)=2:=by simpa using h2
   simp only [↓wR,zT,simprocAttr,h2];refine E2 [0,2,7,8,9,17,19] ?_;simp only [↓wR,zT,simprocAttr,E6,sm,N4,hcs.owner,hz.origin];rw [dv];refine ⟨fun h3=>?_,fun h3=>?_⟩
   ·simp only [↓wR,zT,simprocAttr,h3,yq,hcs.owner,hn];rw [dv];refine ⟨fun h4=>?_,fun h4=>?_⟩
    ·cases b with
     |none=>
      have hb2:nq z n none c=some c.owner:=by simp [nq,e2,h3,h4,Fi]
      rw [hb2] at hstep
      repeat (first|simp only [↓wR,zT,simprocAttr,h4,Option.isSome_none]|simp (disch:=omega) only [zW])
      exact ⟨(i+1,some c.owner),⟨hlt,hstep,fun m hm=>by cases hm;exact hcs.owner⟩,by simp;omega,zF,zF⟩
     |some m=>
      simp only [↓wR,zT,simprocAttr,h4];rw [az];refine ⟨fun h5=>?_,fun h5=>?_⟩
      ·have hb2:nq z n (some m) c=some c.owner:=by simp [nq,e2,h3,h4,Fi];omega
       rw [hb2] at hstep
       repeat (first|simp only [↓wR,zT,simprocAttr,h5]|simp (disch:=omega) only [zW])
       exact ⟨(i+1,some c.owner),⟨hlt,hstep,fun m hm=>by cases hm;exact hcs.owner⟩,by simp;omega,zF,zF⟩
      ·have hb2:nq z n (some m) c=some m:=by simp [nq,e2,h3,h4,Fi];omega
       rw [hb2] at hstep
       repeat (first|simp only [↓wR,zT,simprocAttr,h5]|simp (disch:=omega) only [zW])
       exact ⟨(i+1,some m),⟨hlt,hstep,hb⟩,by simp;omega,zF,zF⟩
    ·have hb2:nq z n b c=b:=by simp [nq,h4]
     rw [hb2] at hstep
     repeat (first|simp only [↓wR,zT,simprocAttr,h4]|simp (disch:=omega) only [zW])
     exact ⟨(i+1,b),⟨hlt,hstep,hb⟩,by simp;omega,zF,zF⟩
   ·have hb2:nq z n b c=b:=by simp [nq,h3]
    rw [hb2] at hstep
    repeat (first|simp only [↓wR,zT,simprocAttr,h3]|simp (disch:=omega) only [zW])
    exact ⟨(i+1,b),⟨hlt,hstep,hb⟩,by simp;omega,zF,zF⟩
  ·have e2:¬ (c.type.toNat:Int)=2:=by simpa using h2
   have hb2:nq z n b c=b:=by simp [nq,e2]
   rw [hb2] at hstep
   repeat (first|simp only [↓wR,zT,simprocAttr,h2]|simp (disch:=omega) only [zW])
   exact ⟨(i+1,b),⟨hlt,hstep,hb⟩,by simp;omega,zF,zF⟩
 ·rw [gz h] at hx;simp only [↓wR,zT,simprocAttr,h];cases b with
  |none=>
   have hc0:uu z n=none:=hx;simp only [↓wR,zT,simprocAttr,Option.isSome_none];rw [hc0];rfl
  |some m=>
   have hc0:uu z n=some m:=hx;simp only [↓wR,zT,simprocAttr,rm,hb m rfl];rw [hc0];rfl
noncomputable def Ut (x:cf × Name × Unit):Option AV:=if dj x.1/\bj x.2.1 then some ((r2 au bq).E true (((uu x.1 x.2.1).getD [],(uu x.1 x.2.1).isSome))) else none
theorem ayo (x:cf × Name × Unit) (r:AV) (h:Ut x=some r):bo PP 42 ((aC c7 (aC au a0)).E x) r:=by obtain ⟨hc,rfl⟩:=zI h;exact bf (ak.cons (aq Ge) (ak.cons (aq ao3) (ak.cons (aq ua) (ak.nil PP)))) Tryz.func42 zK zK zK zL (r2 au bq) true (((uu x.1 x.2.1).getD [],(uu x.1 x.2.1).isSome)) (aHp x.1 x.2.1 hc.1 hc.2)
noncomputable abbrev aL4:zE:=(42,true,dg (aC c7 (aC au a0)) Ut)
def aJf (z:cf) (n:Name):Bool:=jm n z.origin && (gh n z.origin || z.ar.any fun s=>jm s.owner n)
theorem aAb (t:UInt16):wl PP [] 0 (Tryz.f196.body.getD .skip) (di PP Tryz.f196.results.toList (fun r st=>(r1 bq).get true st.h r=some false)) (cj 0 [ct.val false t]) (ay []):=by unfold Tryz.f196;simp only [↓wR,zT,simprocAttr,bne_self_eq_false]
noncomputable def acb (x:UInt16 × Unit):Option AV:=some ((r1 bq).E true (false))
theorem apg (x:UInt16 × Unit) (r:AV) (h:acb x=some r):bo PP 196 ((aC ct a0).E x) r:=by cases h;exact bf (ak.nil PP) Tryz.func196 zK zK zK zL (r1 bq) true (false) (aAb x.1)
noncomputable abbrev aIp:zE:=(196,true,dg (aC ct a0) acb)
def xy (a b:UInt16):Int:=if (a.toNat:Int)<b.toNat then -1 else if (b.toNat:Int)<a.toNat then 1 else 0
theorem aHe (a b:UInt16):wl PP [aIp] 0 (Tryz.f167.body.getD .skip) (di PP Tryz.f167.results.toList (fun r st=>(r1 (bh .i64)).get true st.h r=some (xy a b))) (cj 0 [ct.val false a,ct.val false b]) (ay []):=by
 unfold Tryz.f167;unfold xy;simp only [↓wR,zT,simprocAttr,acb];rw [az];refine ⟨fun h=>?_,fun h=>?_⟩
 ·rw [if_pos h];simp only [↓wR,zT,simprocAttr,h]
 ·rw [if_neg h];simp only [↓wR,zT,simprocAttr,h];rw [az];refine ⟨fun h2=>?_,fun h2=>?_⟩
  ·rw [if_pos h2];simp only [↓wR,zT,simprocAttr,h2]
  ·rw [if_neg h2];simp only [↓wR,zT,simprocAttr,h2]
noncomputable def Yp (x:UInt16 × UInt16 × Unit):Option AV:=some ((r1 (bh .i64)).E true (xy x.1 x.2.1))
theorem aaw (x:UInt16 × UInt16 × Unit) (r:AV) (h:Yp x=some r):bo PP 167 ((aC ct (aC ct a0)).E x) r:=by cases h;exact bf (ak.cons (aq apg) (ak.nil PP)) Tryz.func167 zK zK zK zL (r1 (bh .i64)) true (xy x.1 x.2.1) (aHe x.1 x.2.1)
noncomputable abbrev aD5:zE:=(167,true,dg (aC ct (aC ct a0)) Yp)
def C9:List Int->Int
 | []=>0
 |a::r=>if a≠0 then a else C9 r
theorem aKi (l:List Int) (hl:l.length<=16777216):wl PP [] 0 (Tryz.f165.body.getD .skip) (di PP Tryz.f165.results.toList (fun r st=>(r1 (bh .i64)).get true st.h r=some (C9 l))) (cj 0 [(bw (bh .i64)).val false l]) (ay []):=by
 unfold Tryz.f165;rw [nv];simp only [↓wR,zT,simprocAttr];refine da [3,6,7,8] (fun (i:Nat)=>[zi 0,.vl false 1 (l.map ((bh .i64).val false)),zi l.length,zi i]) (fun _=>[]) (fun i=>i<=l.length/\C9 l=C9 (l.drop i)) (fun i=>l.length - i) 0 ⟨zzb _,rfl⟩ zS zS ?_;rintro i ⟨hi,hx⟩;simp only [↓wR,zT,simprocAttr];rw [az];refine ⟨fun h=>?_,fun h=>?_⟩
 ·obtain ⟨c,hc,aH,hlt⟩:=fi (zp h);rw [aH,C9] at hx;simp only [↓wR,zT,simprocAttr,h,hc];rw [de];refine ⟨fun ⟨h2,e2⟩=>?_,fun ⟨h2,e2⟩=>?_⟩
  ·rw [if_pos e2] at hx;simp only [↓wR,zT,simprocAttr,h2];rw [hx]
  ·rw [if_neg zO] at hx
   repeat (first|simp only [↓wR,zT,simprocAttr,h2]|simp (disch:=omega) only [zW])
   exact ⟨i+1,⟨hlt,hx⟩,zO,zF⟩
 ·rw [gz (zq h)] at hx;simp only [↓wR,zT,simprocAttr,h];rw [hx];rfl
noncomputable def ab9 (x:List Int × Unit):Option AV:=if x.1.length<=16777216 then some ((r1 (bh .i64)).E true (C9 x.1)) else none
theorem am0 (x:List Int × Unit) (r:AV) (h:ab9 x=some r):bo PP 165 ((aC (bw (bh .i64)) a0).E x) r:=by obtain ⟨hc,rfl⟩:=zI h;exact bf (ak.nil PP) Tryz.func165 zK zK zK zL (r1 (bh .i64)) true (C9 x.1) (aKi x.1 hc)
noncomputable abbrev orC:zE:=(165,true,dg (aC (bw (bh .i64)) a0) ab9)
noncomputable def Di (a b:aw):Int:=C9 [ry a.owner b.owner,xy a.type b.type]
theorem asd (a b:aw) (ha:cw a) (hb:cw b):wl PP [V3,aD5,orC] 0 (Tryz.f139.body.getD .skip) (di PP Tryz.f139.results.toList (fun r st=>(r1 (bh .i64)).get true st.h r=some (Di a b))) (cj 0 [aj.val false a,aj.val false b]) (ay []):=by unfold Tryz.f139;simp only [ji];simp only [↓wR,zT,simprocAttr];refine ⟨zK,.inl ?_⟩;simp only [↓wR,zT,simprocAttr,xr,Yp,ab9,ha.owner,hb.owner];exact ⟨zK,rfl⟩
noncomputable def Dd (x:aw × aw × Unit):Option AV:=if cw x.1/\cw x.2.1 then some ((r1 (bh .i64)).E true (Di x.1 x.2.1)) else none
theorem ag1 (x:aw × aw × Unit) (r:AV) (h:Dd x=some r):bo PP 139 ((aC aj (aC aj a0)).E x) r:=by obtain ⟨hc,rfl⟩:=zI h;exact bf (ak.cons (aq Js) (ak.cons (aq aaw) (ak.cons (aq am0) (ak.nil PP)))) Tryz.func139 zK zK zK zL (r1 (bh .i64)) true (Di x.1 x.2.1) (asd x.1 x.2.1 hc.1 hc.2)
noncomputable abbrev aiv:zE:=(139,true,dg (aC aj (aC aj a0)) Dd)
noncomputable def tj (t:UInt16):List bp->Bool
 |a::b::r=>if 0<=yu t a b then false else tj t (b::r)
 |_=>true
noncomputable def jv (z:cf) (i:Nat) (s:aw):Bool:=
 (match i with|0=>true|k+1=>match z.ar[k]? with|some a=>decide (¬ (Di a s ≥ 0))|none=>true) && tj s.type s.data
theorem xa (k:Nat):((k:Int)+1).toNat=k+1:=zO
theorem C2 (k:Nat):(0:Int)<=(k:Int)+1:=zO
theorem Kn (t:UInt16) {l:List bp} {k:Nat} {a b:bp} (ha:l[k]? = some a) (hb:l[k+1]? = some b):tj t (l.drop k)=if 0<=yu t a b then false else tj t (l.drop (k+1)):=by rw [F9 ha,F9 hb];rfl
theorem Ij (t:UInt16) {l:List bp} {k:Nat} (h:l.length<=k+1):tj t (l.drop k)=true:=by
 have:(l.drop k).length<=1:=by rw [zzt];omega
 match hd:l.drop k with
 | []=>rfl
 | [a]=>rfl
 |a::b::r=>rw [hd] at this;simp at this
theorem aCg (l:ym) (i:Nat) (s:aw) (hz:dj l.z) (hs:cw s) (hi:i<=l.z.ar.length):wl PP [aiv,Gy] 0 (Tryz.f96.body.getD .skip) (di PP Tryz.f96.results.toList (fun r st=>(r1 bq).get true st.h r=some (jv l.z i s))) (cj 0 [.ik (qm.cells false l),(bh .i64).val false i,aj.val false s]) (ay []):=by
 have hd:=hs.data;have hn:=hd.len;have hl:=hz.len;unfold Tryz.f96;simp only [ji];simp only [↓wR,zT,simprocAttr,Fx];refine ⟨zK,.inl ?_⟩;rw [az];refine ⟨fun h=>?_,fun h=>?_⟩
 ·cases i with
  |zero=>omega
  |succ k=>
  obtain ⟨a,ha⟩:∃ a,l.z.ar[k]? = some a:=⟨_,zh zO⟩;have has:=hz.set a (zm ha)
  repeat (first|simp only [↓wR,zT,simprocAttr,h,ha,Int.natCast_add,Int.add_sub_cancel,Dd,has,hs]|simp (disch:=omega) only [zW])
  refine ⟨zK,?_⟩;rw [az];refine ⟨fun h2=>?_,fun h2=>?_⟩
  ·have hv:jv l.z (k+1) s=false:=by simp only [jv,ha];simp [h2]
   simp only [↓wR,zT,simprocAttr,h2];rw [hv]
  have hv:jv l.z (k+1) s=tj s.type s.data:=by simp only [jv,ha];simp [h2]
  clear ha;simp only [↓wR,zT,simprocAttr,h2];refine da [5,7] (fun (k:Nat)=>[.ptr 0 0,zi ((k:Int)+1)]) (fun _=>[(zY s)]) (fun k=>(k=0\/k+1<=s.data.length)/\tj s.type s.data=tj s.type (s.data.drop k)) (fun k=>s.data.length - k) 0 ⟨.inl rfl,rfl⟩ zS zS ?_;rintro k ⟨hk,hx⟩;simp only [↓wR,zT,simprocAttr];rw [az];refine ⟨fun h5=>?_,fun h5=>?_⟩
  ·obtain ⟨a,ha⟩:∃ a,s.data[k]? = some a:=⟨_,zh zO⟩;obtain ⟨b,hb⟩:∃ b,s.data[k+1]? = some b:=⟨_,zh zO⟩;rw [Kn _ ha hb] at hx;have has:=hd.mem a (zm ha);have bI:=hd.mem b (zm hb);simp only [↓wR,zT,simprocAttr,h5];refine ⟨zK,.inl ?_⟩
   repeat (first|simp only [↓wR,zT,simprocAttr,ha,hb,Int.add_sub_cancel,xa,C2,pv,has,bI]|simp (disch:=omega) only [zW])
   refine ⟨zK,?_⟩;rw [az];refine ⟨fun h6=>?_,fun h6=>?_⟩
   ·rw [if_pos h6] at hx;simp only [↓wR,zT,simprocAttr,h6];rw [hv,hx]
   ·rw [if_neg h6] at hx
    repeat (first|simp only [↓wR,zT,simprocAttr,h6]|simp (disch:=omega) only [zW])
    exact ⟨k+1,⟨.inr zO,hx⟩,zO,zF⟩
  ·rw [Ij _ zO] at hx;simp only [↓wR,zT,simprocAttr,h5];rw [hv,hx]
 ·simp only [↓wR,zT,simprocAttr,h];have fX:i=0:=zO;have hv:jv l.z i s=tj s.type s.data:=by rw [fX];simp [jv]
  refine ⟨zK,?_⟩;refine da [5,7] (fun (k:Nat)=>[.ptr 0 0,zi ((k:Int)+1)]) (fun _=>[(zY s)]) (fun k=>(k=0\/k+1<=s.data.length)/\tj s.type s.data=tj s.type (s.data.drop k)) (fun k=>s.data.length - k) 0 ⟨.inl rfl,rfl⟩ zS zS ?_;rintro k ⟨hk,hx⟩;simp only [↓wR,zT,simprocAttr];rw [az];refine ⟨fun h5=>?_,fun h5=>?_⟩
  ·obtain ⟨a,ha⟩:∃ a,s.data[k]? = some a:=⟨_,zh zO⟩;obtain ⟨b,hb⟩:∃ b,s.data[k+1]? = some b:=⟨_,zh zO⟩;rw [Kn _ ha hb] at hx;have has:=hd.mem a (zm ha);have bI:=hd.mem b (zm hb);simp only [↓wR,zT,simprocAttr,h5];refine ⟨zK,.inl ?_⟩
   repeat (first|simp only [↓wR,zT,simprocAttr,ha,hb,Int.add_sub_cancel,xa,C2,pv,has,bI]|simp (disch:=omega) only [zW])
   refine ⟨zK,?_⟩;rw [az];refine ⟨fun h6=>?_,fun h6=>?_⟩
   ·rw [if_pos h6] at hx;simp only [↓wR,zT,simprocAttr,h6];rw [hv,hx]
   ·rw [if_neg h6] at hx
    repeat (first|simp only [↓wR,zT,simprocAttr,h6]|simp (disch:=omega) only [zW])
    exact ⟨k+1,⟨.inr zO,hx⟩,zO,zF⟩
  ·rw [Ij _ zO] at hx;simp only [↓wR,zT,simprocAttr,h5];rw [hv,hx]
theorem azn (l:ym) (i:Int) (s:aw) (hz:dj l.z) (hs:cw s) (hi : 0<=i/\i<=l.z.ar.length):wl PP [aiv,Gy] 0 (Tryz.f96.body.getD .skip) (di PP Tryz.f96.results.toList (fun r st=>(r1 bq).get true st.h r=some (jv l.z i.toNat s))) (cj 0 [.ik (qm.cells false l),(bh .i64).val false i,aj.val false s]) (ay []):=by
 have:=aCg l i.toNat s hz hs zO
 rwa [Int.toNat_of_nonneg hi.1] at this
noncomputable def Np (x:ym × Int × aw × Unit):Option AV:=if (dj x.1.z/\cw x.2.2.1)/\0<=x.2.1/\x.2.1<=x.1.z.ar.length then some ((r1 bq).E true (jv x.1.z x.2.1.toNat x.2.2.1)) else none
theorem We (x:ym × Int × aw × Unit) (r:AV) (h:Np x=some r):bo PP 96 ((aP qm (aC (bh .i64) (aC aj a0))).E x) r:=by obtain ⟨hc,rfl⟩:=zI h;exact bf (ak.cons (aq ag1) (ak.cons (aq Cw) (ak.nil PP))) Tryz.func96 zK zK zK zL (r1 bq) true (jv x.1.z x.2.1.toNat x.2.2.1) (azn x.1 x.2.1 x.2.2.1 hc.1.1 hc.1.2 hc.2)
noncomputable abbrev mj:zE:=(96,true,dg (aP qm (aC (bh .i64) (aC aj a0))) Np)
def x8 (i:Nat) (n:Name):Nat->List aw->Bool
 |_,[]=>false
 |k,o::r=>(decide (¬ (k:Int)=i) && gh o.owner n) || x8 i n (k+1) r
def l6 (z:cf) (i:Nat) (s:aw):Bool:=
 if ¬ (s.type.toNat:Int)=5 then true else if ¬ (s.data.length:Int)=1 then false else if gh s.owner z.origin=true then false else !x8 i s.owner 0 z.ar
theorem aDl (l:ym) (i:Nat) (s:aw) (hz:dj l.z) (hs:cw s):wl PP [je] 0 (Tryz.f101.body.getD .skip) (di PP Tryz.f101.results.toList (fun r st=>(r1 bq).get true st.h r=some (l6 l.z i s))) (cj 0 [.ik (qm.cells false l),(bh .i64).val false i,aj.val false s]) (ay []):=by
 have hl:=hz.len;unfold Tryz.f101;simp only [ji];simp only [↓wR,zT,simprocAttr,Fx];unfold l6;rw [de];refine ⟨fun ⟨h,e⟩=>?_,fun ⟨h,e⟩=>?_⟩
 ·rw [if_pos e];simp only [↓wR,zT,simprocAttr,h]
 rw [if_neg zO];simp only [↓wR,zT,simprocAttr,h];refine ⟨zK,.inl ?_⟩;rw [de];refine ⟨fun ⟨h2,e2⟩=>?_,fun ⟨h2,e2⟩=>?_⟩
 ·rw [if_pos e2];simp only [↓wR,zT,simprocAttr,h2];exact by kernel_rfl
 rw [if_neg zO];simp only [↓wR,zT,simprocAttr,h2,rq,hs.owner,hz.origin];refine ⟨zK,?_⟩;rw [dv];refine ⟨fun h3=>?_,fun h3=>?_⟩
 ·rw [if_pos h3];simp only [↓wR,zT,simprocAttr,h3]
 rw [if_neg (by rw [h3];decide)];simp only [↓wR,zT,simprocAttr,h3];refine da [1,5,30,31,32] (fun (k:Nat)=>[zi i,.ptr 0 0,zs l.z.ar,zi l.z.ar.length,zi k]) (fun _=>[(zY s)]) (fun k=>k<=l.z.ar.length/\x8 i s.owner 0 l.z.ar=x8 i s.owner k (l.z.ar.drop k)) (fun k=>l.z.ar.length - k) 0 ⟨zzb _,rfl⟩ zS zS ?_;rintro k ⟨hk,hx⟩;simp only [↓wR,zT,simprocAttr];rw [az];refine ⟨fun h4=>?_,fun h4=>?_⟩
 ·obtain ⟨c,hc,aH,hlt⟩:=fi (zp h4);rw [aH,x8] at hx;have hcs:=hz.set c (zm hc);simp only [↓wR,zT,simprocAttr,h4,hc];rw [de];refine ⟨fun ⟨h5,e5⟩=>?_,fun ⟨h5,e5⟩=>?_⟩
  ·rw [zp e5,Bool.true_and] at hx;simp only [↓wR,zT,simprocAttr,h5,rq,hcs.owner,hs.owner];rw [dv];refine ⟨fun h6=>?_,fun h6=>?_⟩
   ·rw [h6,Bool.true_or] at hx;simp only [↓wR,zT,simprocAttr,h6];rw [hx];rfl
   ·rw [h6,Bool.false_or] at hx
    repeat (first|simp only [↓wR,zT,simprocAttr,h6]|simp (disch:=omega) only [zW])
    exact ⟨k+1,⟨hlt,hx⟩,zO,zF⟩
  ·rw [zq zO,Bool.false_and,Bool.false_or] at hx
   repeat (first|simp only [↓wR,zT,simprocAttr,h5]|simp (disch:=omega) only [zW])
   exact ⟨k+1,⟨hlt,hx⟩,zO,zF⟩
 ·rw [gz (zq h4),x8] at hx;simp only [↓wR,zT,simprocAttr,h4];rw [hx];rfl
theorem av7 (l:ym) (i:Int) (s:aw) (hz:dj l.z) (hs:cw s) (hi : 0<=i):wl PP [je] 0 (Tryz.f101.body.getD .skip) (di PP Tryz.f101.results.toList (fun r st=>(r1 bq).get true st.h r=some (l6 l.z i.toNat s))) (cj 0 [.ik (qm.cells false l),(bh .i64).val false i,aj.val false s]) (ay []):=by
 have:=aDl l i.toNat s hz hs
 rwa [Int.toNat_of_nonneg hi] at this
noncomputable def I7 (x:ym × Int × aw × Unit):Option AV:=if (dj x.1.z/\cw x.2.2.1)/\0<=x.2.1 then some ((r1 bq).E true (l6 x.1.z x.2.1.toNat x.2.2.1)) else none
theorem Vn (x:ym × Int × aw × Unit) (r:AV) (h:I7 x=some r):bo PP 101 ((aP qm (aC (bh .i64) (aC aj a0))).E x) r:=by obtain ⟨hc,rfl⟩:=zI h;exact bf (ak.cons (aq Aa) (ak.nil PP)) Tryz.func101 zK zK zK zL (r1 bq) true (l6 x.1.z x.2.1.toNat x.2.2.1) (av7 x.1 x.2.1 x.2.2.1 hc.1.1 hc.1.2 hc.2)
noncomputable abbrev mz:zE:=(101,true,dg (aP qm (aC (bh .i64) (aC aj a0))) I7)
def ng (s:aw):Bool:=if ¬ (s.cls.toNat:Int)=1 then false else if (s.type.toNat:Int)=0 then false else if (s.type.toNat:Int)=41 then false else !decide ((s.type.toNat:Int)=255)
theorem aC6 (i:Int) (s:aw):wl PP [] 0 (Tryz.f97.body.getD .skip) (di PP Tryz.f97.results.toList (fun r st=>(r1 bq).get true st.h r=some (ng s))) (cj 0 [(bh .i64).val false i,aj.val false s]) (ay []):=by
 unfold Tryz.f97;simp only [ji];simp only [↓wR,zT,simprocAttr];unfold ng;rw [cp];refine ⟨fun ⟨h,e⟩=>?_,fun ⟨h,e⟩=>?_⟩
 ·rw [if_neg zO];simp only [↓wR,zT,simprocAttr,h];rw [de];refine ⟨fun ⟨h2,e2⟩=>?_,fun ⟨h2,e2⟩=>?_⟩
  ·rw [if_neg e2];simp only [↓wR,zT,simprocAttr,h2];rw [de];refine ⟨fun ⟨h3,e3⟩=>?_,fun ⟨h3,e3⟩=>?_⟩
   ·rw [if_neg e3];simp only [↓wR,zT,simprocAttr,h3];rfl
   ·rw [if_pos e3];simp only [↓wR,zT,simprocAttr,h3]
  ·rw [if_pos e2];simp only [↓wR,zT,simprocAttr,h2]
 ·rw [if_pos e];simp only [↓wR,zT,simprocAttr,h]
noncomputable def ach (x:Int × aw × Unit):Option AV:=some ((r1 bq).E true (ng x.2.1))
theorem Vg (x:Int × aw × Unit) (r:AV) (h:ach x=some r):bo PP 97 ((aC (bh .i64) (aC aj a0)).E x) r:=by cases h;exact bf (ak.nil PP) Tryz.func97 zK zK zK zL (r1 bq) true (ng x.2.1) (aC6 x.1 x.2.1)
noncomputable abbrev mr:zE:=(97,true,dg (aC (bh .i64) (aC aj a0)) ach)
theorem ayl (i:Int) (s:aw) (z:cf) (hs:cw s) (hz:dj z):wl PP [Sl] 0 (Tryz.f98.body.getD .skip) (di PP Tryz.f98.results.toList (fun r st=>(r1 bq).get true st.h r=some (jm s.owner z.origin))) (cj 0 [(bh .i64).val false i,aj.val false s,.ik (c7.cells false z)]) (ay []):=by unfold Tryz.f98;simp only [ji];simp only [↓wR,zT,simprocAttr,Fm,yq,hs.owner,hz.origin]
noncomputable def J2 (x:Int × aw × cf × Unit):Option AV:=if cw x.2.1/\dj x.2.2.1 then some ((r1 bq).E true (jm x.2.1.owner x.2.2.1.origin)) else none
theorem Sf (x:Int × aw × cf × Unit) (r:AV) (h:J2 x=some r):bo PP 98 ((aC (bh .i64) (aC aj (aP c7 a0))).E x) r:=by obtain ⟨hc,rfl⟩:=zI h;exact bf (ak.cons (aq Ge) (ak.nil PP)) Tryz.func98 zK zK zK zL (r1 bq) true (jm x.2.1.owner x.2.2.1.origin) (ayl x.1 x.2.1 x.2.2.1 hc.1 hc.2)
noncomputable abbrev lj:zE:=(98,true,dg (aC (bh .i64) (aC aj (aP c7 a0))) J2)
def l5 (s:aw):Bool:=if ¬ (s.type.toNat:Int)=2 then true else match s.owner[0]? with|none=>true|some a=>!decide (a=O8)
theorem aFq (i:Int) (s:aw) (hs:cw s):wl PP [] 0 (Tryz.f102.body.getD .skip) (di PP Tryz.f102.results.toList (fun r st=>(r1 bq).get true st.h r=some (l5 s))) (cj 0 [(bh .i64).val false i,aj.val false s]) (ay []):=by
 have hn:=hs.owner.lt;unfold Tryz.f102;simp only [ji];simp only [↓wR,zT,simprocAttr];unfold l5;rw [de];refine ⟨fun ⟨h,e⟩=>?_,fun ⟨h,e⟩=>?_⟩
 ·rw [if_pos e];simp only [↓wR,zT,simprocAttr,h]
 rw [if_neg zO];simp only [↓wR,zT,simprocAttr,h];rw [cp];refine ⟨fun ⟨h2,e2⟩=>?_,fun ⟨h2,e2⟩=>?_⟩
 ·have hnil:s.owner=[]:=zzf zO;have h0:s.owner[0]? = none:=by rw [hnil];rfl
  rw [h0];simp only [↓wR,zT,simprocAttr,h2]
 ·obtain ⟨a,ha⟩:∃ a,s.owner[0]? = some a:=⟨_,zh zO⟩;have h0 : 0<s.owner.length:=zO;rw [ha];simp only [↓wR,zT,simprocAttr,h2,ha,h0];rfl
noncomputable def Nk (x:Int × aw × Unit):Option AV:=if cw x.2.1 then some ((r1 bq).E true (l5 x.2.1)) else none
theorem Z9 (x:Int × aw × Unit) (r:AV) (h:Nk x=some r):bo PP 102 ((aC (bh .i64) (aC aj a0)).E x) r:=by obtain ⟨hc,rfl⟩:=zI h;exact bf (ak.nil PP) Tryz.func102 zK zK zK zL (r1 bq) true (l5 x.2.1) (aFq x.1 x.2.1 hc)
noncomputable abbrev pf:zE:=(102,true,dg (aC (bh .i64) (aC aj a0)) Nk)
def pz (z:cf) (s:aw):Bool:=
 match uu z s.owner with
 |none=>true
 |some c=>if (s.type.toNat:Int)=1 then true else if (s.type.toNat:Int)=28 then true else if (s.type.toNat:Int)=2 then gh c s.owner else false
theorem aJe (i:Int) (s:aw) (z:cf) (hs:cw s) (hz:dj z):wl PP [aL4,je] 0 (Tryz.f103.body.getD .skip) (di PP Tryz.f103.results.toList (fun r st=>(r1 bq).get true st.h r=some (pz z s))) (cj 0 [(bh .i64).val false i,aj.val false s,.ik (c7.cells false z)]) (ay []):=by
 have hsm:=afq (n:=s.owner) hz z.ar none (fun _ h=>h) (fun m hm=>by cases hm);change ∀ m,uu z s.owner=some m->bj m at hsm;unfold Tryz.f103;simp only [ji];unfold pz;cases hc:uu z s.owner with
 |none=>
  simp only [↓wR,zT,simprocAttr,Fm,Ut,hs.owner,hz,hc,Option.isSome_none]
  done
 |some c=>
  simp only [↓wR,zT,simprocAttr,Fm,Ut,hs.owner,hz,hc];rw [cp];refine ⟨fun ⟨h,e⟩=>?_,fun ⟨h,e⟩=>?_⟩
  ·rw [if_pos e];simp only [↓wR,zT,simprocAttr,h]
  rw [if_neg e];simp only [↓wR,zT,simprocAttr,h];rw [cp];refine ⟨fun ⟨h2,e2⟩=>?_,fun ⟨h2,e2⟩=>?_⟩
  ·rw [if_pos e2];simp only [↓wR,zT,simprocAttr,h2]
  rw [if_neg e2];simp only [↓wR,zT,simprocAttr,h2];rw [cp];refine ⟨fun ⟨h3,e3⟩=>?_,fun ⟨h3,e3⟩=>?_⟩
  ·rw [if_pos e3];simp only [↓wR,zT,simprocAttr,h3,rq,hs.owner,hsm c hc]
  ·rw [if_neg e3];simp only [↓wR,zT,simprocAttr,h3]
noncomputable def Tz (x:Int × aw × cf × Unit):Option AV:=if cw x.2.1/\dj x.2.2.1 then some ((r1 bq).E true (pz x.2.2.1 x.2.1)) else none
theorem afb (x:Int × aw × cf × Unit) (r:AV) (h:Tz x=some r):bo PP 103 ((aC (bh .i64) (aC aj (aP c7 a0))).E x) r:=by obtain ⟨hc,rfl⟩:=zI h;exact bf (ak.cons (aq ayo) (ak.cons (aq Aa) (ak.nil PP))) Tryz.func103 zK zK zK zL (r1 bq) true (pz x.2.2.1 x.2.1) (aJe x.1 x.2.1 x.2.2.1 hc.1 hc.2)
noncomputable abbrev tt:zE:=(103,true,dg (aC (bh .i64) (aC aj (aP c7 a0))) Tz)
def rk (z:cf) (p:Nat × Nat) (s:aw):Nat × Nat:=
 if (s.type.toNat:Int)=6 then (p.1+1,if (gh s.owner z.origin && decide ((s.data.length:Int)=1))=true then p.2+1 else p.2) else p
def js (z:cf):Nat × Nat:=z.ar.foldl (rk z) (0,0)
theorem aFe (k:ym) (hz:dj k.z):wl PP [je] 0 (Tryz.f99.body.getD .skip) (di PP Tryz.f99.results.toList (fun r st=>(r2 (bh .i64) (bh .i64)).get true st.h r=some (((js k.z).1:Int),((js k.z).2:Int)))) (cj 0 [.ik (qm.cells false k)]) (ay []):=by
 have hl:=hz.len;unfold Tryz.f99;simp only [↓wR,zT,simprocAttr,Fx];refine cb (T:=[]) (ak.nil PP) mixed Tryz.func78 rfl zK zK zK zK ?_;unfold Tryz.f78;simp only [↓wR,zT,simprocAttr];refine ⟨[1,4,5,11],?_⟩;have hib:Gs PP 131=some (Tryz.f131.ntmps,Tryz.f131.body.getD .skip):=zK;simp only [↓wR,zT,simprocAttr,hib];refine ⟨zK,fun l=>?_⟩;unfold Tryz.f131;simp only [↓wR,zT,simprocAttr];refine Li [0,2,7,8,9] (fun (x:Nat × Nat × Nat)=>[.sc (.func (.yield l) #[] #[]),.ptr 4 0,zs k.z.ar,zi k.z.ar.length,zi x.1]) (fun x=>[some (.row [.ik [zn k.z.origin,zs k.z.ar,zi k.e]] 0 2 144),some (.row [zi (x.2.1:Int)] 0 2 3),some (.row [zi (x.2.2:Int)] 0 2 3),some (.row [zn k.z.origin,zs k.z.ar] 0 2 26),some (.row [.sc (.int .u16 6)] 0 2 50)]) (fun x=>x.1<=k.z.ar.length/\x.2.1<=x.1/\x.2.2<=x.1/\js k.z=(k.z.ar.drop x.1).foldl (rk k.z) x.2) (fun x=>k.z.ar.length - x.1) (0,0,0) ⟨zzb _,zza _,zza _,rfl⟩ zS zS ?_;rintro ⟨i,n,m⟩ ⟨hi,hn,hm,hx⟩;simp only at hi hn hm hx;simp only [↓wR,zT,simprocAttr];rw [Bo];refine ⟨fun h=>?_,fun h=>?_⟩
 ·obtain ⟨c,hc,aH,hlt⟩:=fi h;have hcs:=hz.set c (zm hc);have hstep:js k.z=(k.z.ar.drop (i+1)).foldl (rk k.z) (rk k.z (n,m) c):=by rw [hx,aH];rfl
  simp only [↓wR,zT,simprocAttr,h,hc];rw [Bo];refine ⟨fun h2=>?_,fun h2=>?_⟩
  ·have e2:(c.type.toNat:Int)=6:=by simpa using h2
   simp only [↓wR,zT,simprocAttr,h2];refine E2 [0,2,7,8,9,17,19] ?_
   repeat (first|simp only [↓wR,zT,simprocAttr,E6,sm]|simp (disch:=omega) only [zW])
   refine ⟨zK,.inl ?_⟩;simp only [↓wR,zT,simprocAttr,rq,hcs.owner,hz.origin];have fin:∀ q,rk k.z (n,m) c=(n+1,q)->q<=i+1->js k.z=(k.z.ar.drop (i+1)).foldl (rk k.z) (n+1,q):=fun q hq _=>by rw [hstep,hq]
   rw [dv];refine ⟨fun h3=>?_,fun h3=>?_⟩
   ·simp only [↓wR,zT,simprocAttr,h3];refine ⟨zK,?_⟩;rw [cp];refine ⟨fun ⟨h4,e4⟩=>?_,fun ⟨h4,e4⟩=>?_⟩
    ·have hq:rk k.z (n,m) c=(n+1,m+1):=by simp [rk,e2,h3,e4]
     repeat (first|simp only [↓wR,zT,simprocAttr,h4]|simp (disch:=omega) only [zW])
     exact ⟨(i+1,n+1,m+1),⟨hlt,by simp;omega,by simp;omega,fin _ hq zO⟩,by simp;omega,zF,zF⟩
    ·have hq:rk k.z (n,m) c=(n+1,m):=by simp [rk,e2,h3,e4]
     repeat (first|simp only [↓wR,zT,simprocAttr,h4]|simp (disch:=omega) only [zW])
     exact ⟨(i+1,n+1,m),⟨hlt,by simp;omega,by simp;omega,fin _ hq zO⟩,by simp;omega,zF,zF⟩
   ·have hq:rk k.z (n,m) c=(n+1,m):=by simp [rk,e2,h3]
    simp only [↓wR,zT,simprocAttr,h3];refine ⟨zK,?_⟩;exact ⟨(i+1,n+1,m),⟨hlt,by simp;omega,by simp;omega,fin _ hq zO⟩,by simp;omega,zF,zF⟩
  ·have e2:¬ (c.type.toNat:Int)=6:=by simpa using h2
   have hb2:rk k.z (n,m) c=(n,m):=by simp [rk,e2]
   rw [hb2] at hstep
   repeat (first|simp only [↓wR,zT,simprocAttr,h2]|simp (disch:=omega) only [zW])
   exact ⟨(i+1,n,m),⟨hlt,by simp;omega,by simp;omega,hstep⟩,by simp;omega,zF,zF⟩
 ·rw [gz h] at hx;simp only [↓wR,zT,simprocAttr,h];refine ⟨zK,.inl ?_⟩;refine ⟨zK,?_⟩;rw [hx];rfl
noncomputable def Rz (x:ym × Unit):Option AV:=if dj x.1.z then some ((r2 (bh .i64) (bh .i64)).E true ((((js x.1.z).1:Int),((js x.1.z).2:Int)))) else none
theorem aaq (x:ym × Unit) (r:AV) (h:Rz x=some r):bo PP 99 ((aP qm a0).E x) r:=by obtain ⟨hc,rfl⟩:=zI h;exact bf (ak.cons (aq Aa) (ak.nil PP)) Tryz.func99 zK zK zK zL (r2 (bh .i64) (bh .i64)) true ((((js x.1.z).1:Int),((js x.1.z).2:Int))) (aFe x.1 hc)
noncomputable abbrev pg:zE:=(99,true,dg (aP qm a0) Rz)
def ed (b:Bool) (err e:Int):Int:=if e=0/\b=false then err else e
def jl (err:Int) (p:Nat->aw->Bool):Nat->List aw->Int->Int
 |_,[],e=>e
 |i,s::r,e=>if e≠0 then e else jl err p (i+1) r (ed (p i s) err e)
def np (l:List aw):Nat:=l.foldl (fun n s=>n+s.data.length) 0
noncomputable def tw:List aw->Int->Int
 | [],e=>e
 |s::r,e=>tw r (if e=0 then ud s else e)
noncomputable def vk (z:cf):Int:=if cg z.origin≠0 then cg z.origin else tw z.ar (ed (decide (np z.ar<=2048)) 3 0)
def Pn (z:cf) (l:List aw):Bool:=l.any fun s=>decide ((s.type.toNat:Int)=2) && gh s.owner z.origin
def kn (z:cf):Bool:=Pn z z.ar
theorem ah1 {z:cf} {l:List aw} {i:Nat} {c:aw} (h:l.drop i=c::l.drop (i+1)):Pn z (l.drop i)=((decide ((c.type.toNat:Int)=2) && gh c.owner z.origin) || Pn z (l.drop (i+1))):=by rw [h];rfl
noncomputable def B7 (z:cf):Int:=jl 260 (jv z) 0 z.ar (vk z)
noncomputable def Kh (z:cf):Int:=jl 261 (fun _ s=>ng s) 0 z.ar (B7 z)
noncomputable def tp (z:cf):Int:=jl 262 (fun _ s=>jm s.owner z.origin) 0 z.ar (Kh z)
noncomputable def oz (z:cf):Int:=ed (decide ((js z).1=1) && decide ((js z).2=1)) 263 (tp z)
noncomputable def Cc (z:cf):Int:=ed (kn z) 264 (oz z)
noncomputable def B9 (z:cf):Int:=jl 265 (l6 z) 0 z.ar (Cc z)
noncomputable def G9 (z:cf):Int:=jl 266 (fun _ s=>l5 s) 0 z.ar (B9 z)
noncomputable def Zl (z:cf):Int:=jl 267 (fun _ s=>pz z s) 0 z.ar (G9 z)
noncomputable def ox (z:cf):Int:=if vk z≠0 then vk z else Zl z
theorem Rv (l:List aw) (i:Nat) (c:aw) (h:l[i]? = some c):np (l.take (i+1))=np (l.take i)+c.data.length:=by obtain ⟨hk,rfl⟩:=zg.1 h;rw [zz5 hk];simp only [np,List.foldl_append,List.foldl_cons,List.foldl_nil]
theorem aij (l:List aw):∀ k,l.foldl (fun n s=>n+s.data.length) k<=k+dk og l:=by
 induction l with
 |nil=>intro k;exact zza _
 |cons a l ih=>
  intro k;have h1:=ih (k+a.data.length);have h2:=I5 ly a.data;simp only [dk,List.foldr_cons,List.foldl_cons,og] at h1 ⊢;unfold dk at h2;omega
theorem Oe (l:List aw):np l<=dk og l:=by have:=aij l 0;unfold np;omega
theorem aji {l:List aw} {i:Nat} {c:aw} (h:l.drop i=c::l.drop (i+1)) (e:Int):tw (l.drop i) e=tw (l.drop (i+1)) (if e=0 then ud c else e):=by rw [h];rfl
theorem zj {l:List aw} {i:Nat} {c:aw} (h:l.drop i=c::l.drop (i+1)) (err:Int) (p:Nat->aw->Bool) (e:Int):jl err p i (l.drop i) e=if e≠0 then e else jl err p (i+1) (l.drop (i+1)) (ed (p i c) err e):=by rw [h];rfl
set_option maxHeartbeats 4000000 in
theorem alp (z:cf) (hz:dj z):wl PP [fh,je,j5,mj,mz,mr,lj,pf,tt,pg] 0 (Tryz.f57.body.getD .skip) (di PP Tryz.f57.results.toList (fun r st=>(r1 (bh .i64)).get true st.h r=some (ox z))) (cj 0 [c7.val false z]) (ay []):=by
 have hl:=hz.len;have ok:ak PP [fh,je,j5,mj,mz,mr,lj,pf,tt,pg]:=ak.cons (aq u7) (ak.cons (aq Aa) (ak.cons (aq Qc) (ak.cons (aq We) (ak.cons (aq Vn) (ak.cons (aq Vg) (ak.cons (aq Sf) (ak.cons (aq Z9) (ak.cons (aq afb) (ak.cons (aq aaq) (ak.nil PP))))))))));unfold Tryz.f57;simp only [nk];simp only [↓wR,zT,simprocAttr];refine dr (fun r st'=>r = .gj []/\st'=ay [(zZ z),some (.row [zn z.origin,zs z.ar,zi (vk z)] 0 2 146)]) rfl ?_ ?_
 ·refine cb (T:=[fh,je,j5,mj,mz,mr,lj,pf,tt,pg]) ok mixed Tryz.func94 rfl zK zK zK zK ?_;unfold Tryz.f94;simp only [↓wR,zT,simprocAttr,j7,hz.origin.fit];unfold vk;rw [dv];refine ⟨fun h=>?_,fun h=>?_⟩
  ·have he:cg z.origin≠0:=by simpa using h
   rw [if_pos he];simp only [↓wR,zT,simprocAttr,h,i4,ir,ig]
  have he:cg z.origin=0:=by simpa using h
  rw [if_neg zO];simp only [↓wR,zT,simprocAttr,h,he];refine da [0,2,25,26,27] (fun (i:Nat)=>[.ptr 1 0,zi (np (z.ar.take i)),zs z.ar,zi z.ar.length,zi i]) (fun _=>[(zZ z),some (.row [zn z.origin,zs z.ar,zi 0] 0 2 146)]) (fun i=>i<=z.ar.length) (fun i=>z.ar.length - i) 0 (zzb _) zS zS ?_;clear h;intro i hi;have oC:=Oe (z.ar.take i);have vU:=Xq og z.ar i;have hzz:dk og z.ar<=16777216:=by unfold dj wtZ at hz;omega
  simp only [↓wR,zT,simprocAttr];rw [az];refine ⟨fun h=>?_,fun h=>?_⟩
  ·obtain ⟨c,hc,aH,hlt⟩:=fi (zp h);have hst:=Rv z.ar i c hc;have hcl:=(hz.set c (zm hc)).data.len
   repeat (first|simp only [↓wR,zT,simprocAttr,h,hc]|simp (disch:=omega) only [zW])
   exact ⟨i+1,hlt,zO,by rw [hst];exact zF⟩
  have hin:i=z.ar.length:=zO;rw [hin,zz7] at oC ⊢;simp only [↓wR,zT,simprocAttr,h];have hd:decide ((np z.ar:Int)<=2048)=decide (np z.ar<=2048):=by rw [decide_eq_decide];omega
  rw [hd];refine dr (fun r st'=>r = .gj []/\st'=ay [(zZ z),some (.row [zn z.origin,zs z.ar,zi (ed (decide (np z.ar<=2048)) 3 (0))] 0 2 146)]) rfl ?_ ?_
  ·refine cb (T:=[fh,je,j5,mj,mz,mr,lj,pf,tt,pg]) ok mixed Tryz.func100 rfl zK zK zK zK ?_;unfold Tryz.f100;simp only [↓wR,zT,simprocAttr];rw [dv];refine ⟨fun aN=>?_,fun aN=>?_⟩
   ·have hb:(decide (np z.ar<=2048))=false:=by simpa only [zye] using aN
    have hv:ed (decide (np z.ar<=2048)) 3 (0)=3:=by unfold ed;rw [if_pos ⟨rfl,hb⟩]
    simp only [↓wR,zT,simprocAttr,aN,i4,ir,ig]
    try rw [hv]
   ·have hb:(decide (np z.ar<=2048))=true:=by simpa only [zyj] using aN
    have hv:ed (decide (np z.ar<=2048)) 3 (0)=0:=by unfold ed;rw [if_neg (fun q=>by rw [hb] at q;cases q.2)]
    simp only [↓wR,zT,simprocAttr,aN,i4,ir,ig]
    try rw [hv]
  rintro _ _ ⟨rfl,rfl⟩;simp only [↓wR,zT,simprocAttr,dm];refine da [0,45,46,47] (fun (x:Nat × Int)=>[.ptr 1 0,zs z.ar,zi z.ar.length,zi x.1]) (fun x=>[(zZ z),some (.row [zn z.origin,zs z.ar,zi x.2] 0 2 146)]) (fun x=>x.1<=z.ar.length/\tw z.ar (ed (decide (np z.ar<=2048)) 3 0)=tw (z.ar.drop x.1) x.2) (fun x=>z.ar.length - x.1) (0,ed (decide (np z.ar<=2048)) 3 0) ⟨zzb _,rfl⟩ zS zS ?_;clear h hi hin hd;rintro ⟨i,e⟩ ⟨hi,hx⟩;simp only at hi hx;simp only [↓wR,zT,simprocAttr];rw [az];refine ⟨fun h=>?_,fun h=>?_⟩
  ·obtain ⟨c,hc,aH,hlt⟩:=fi (zp h);rw [aji aH] at hx;have hcs:=hz.set c (zm hc);simp only [↓wR,zT,simprocAttr,h,hc];rw [cp];refine ⟨fun ⟨h1,e1⟩=>?_,fun ⟨h1,e1⟩=>?_⟩
   ·rw [if_pos e1] at hx
    repeat (first|simp only [↓wR,zT,simprocAttr,h1,C1,hcs]|simp (disch:=omega) only [zW])
    exact ⟨(i+1,ud c),⟨hlt,hx⟩,by simp;omega,zF,zF⟩
   ·rw [if_neg e1] at hx
    repeat (first|simp only [↓wR,zT,simprocAttr,h1]|simp (disch:=omega) only [zW])
    exact ⟨(i+1,e),⟨hlt,hx⟩,by simp;omega,zF,zF⟩
  ·rw [gz (zq h)] at hx;simp only [↓wR,zT,simprocAttr,h,i4,ir,ig];rw [hx];rfl
 rintro _ _ ⟨rfl,rfl⟩;simp only [↓wR,zT,simprocAttr,dm];unfold ox;rw [dv];refine ⟨fun h=>?_,fun h=>?_⟩
 ·have he:vk z≠0:=by simpa using h
  rw [if_pos he];simp only [↓wR,zT,simprocAttr,h]
 have he:vk z=0:=by simpa using h
 rw [if_neg zO];simp only [↓wR,zT,simprocAttr,h];clear h he;obtain ⟨e0,bS⟩:∃ e0,vk z=e0:=⟨_,rfl⟩;rw [bS];refine dr (fun r st'=>r = .gj []/\st'=ay [(zZ z),some (.row [zn z.origin,zs z.ar,zi (jl 260 (jv z) 0 z.ar e0)] 0 2 146)]) rfl ?_ ?_
 ·refine cb (T:=[fh,je,j5,mj,mz,mr,lj,pf,tt,pg]) ok mixed Tryz.func95 rfl zK zK zK zK ?_;unfold Tryz.f95;simp only [↓wR,zT,simprocAttr];refine da [0,1,2,12,13,14] (fun (x:Nat × Int)=>[.ptr 1 0,zi 260,.fn (.func 96) [.ptr 1 0] [],zs z.ar,zi z.ar.length,zi x.1]) (fun x=>[(zZ z),some (.row [zn z.origin,zs z.ar,zi x.2] 0 2 146)]) (fun x=>x.1<=z.ar.length/\jl 260 (jv z) 0 z.ar e0=jl 260 (jv z) x.1 (z.ar.drop x.1) x.2) (fun x=>z.ar.length - x.1) (0,e0) ⟨zzb _,rfl⟩ zS zS ?_;rintro ⟨i,e⟩ ⟨hi,hx⟩;simp only at hi hx;simp only [↓wR,zT,simprocAttr];rw [az];refine ⟨fun h=>?_,fun h=>?_⟩
  ·obtain ⟨c,hc,aH,hlt⟩:=fi (zp h);rw [zj aH] at hx;have hcs:=hz.set c (zm hc);have bG:(0:Int)<=i/\(i:Int)<=z.ar.length:=zO;simp only [↓wR,zT,simprocAttr,h,hc];rw [de];refine ⟨fun ⟨h1,e1⟩=>?_,fun ⟨h1,e1⟩=>?_⟩
   ·rw [if_pos e1] at hx;simp only [↓wR,zT,simprocAttr,h1,i4,ir,ig];rw [hx]
   ·rw [if_neg zO] at hx;simp only [↓wR,zT,simprocAttr,h1,hcs,hz,bG,Np];refine dr (fun r st'=>r = .gj []/\st'=ay [(zZ z),some (.row [zn z.origin,zs z.ar,zi (ed ((jv z) i c) 260 e)] 0 2 146),(zY c)]) rfl ?_ ?_
    ·refine cb (T:=[fh,je,j5,mj,mz,mr,lj,pf,tt,pg]) ok mixed Tryz.func100 rfl zK zK zK zK ?_;unfold Tryz.f100;simp only [↓wR,zT,simprocAttr,e1];rw [dv];refine ⟨fun aN=>?_,fun aN=>?_⟩
     ·have hb:((jv z) i c)=false:=by simpa only [zye] using aN
      have hv:ed ((jv z) i c) 260 0=260:=by unfold ed;rw [if_pos ⟨rfl,hb⟩]
      simp only [↓wR,zT,simprocAttr,aN,i4,ir,ig]
      try rw [hv]
     ·have hb:((jv z) i c)=true:=by simpa only [zyj] using aN
      have hv:ed ((jv z) i c) 260 0=0:=by unfold ed;rw [if_neg (fun q=>by rw [hb] at q;cases q.2)]
      simp only [↓wR,zT,simprocAttr,aN,i4,ir,ig]
      try rw [hv]
    rintro _ _ ⟨rfl,rfl⟩
    repeat (first|simp only [↓wR,zT,simprocAttr,dm]|simp (disch:=omega) only [zW])
    exact ⟨(i+1,ed ((jv z) i c) 260 e),⟨hlt,hx⟩,by simp;omega,zF,zF⟩
  ·rw [gz (zq h)] at hx;simp only [↓wR,zT,simprocAttr,h,i4,ir,ig];rw [hx];rfl
 rintro _ _ ⟨rfl,rfl⟩;rw [<- bS];clear bS;simp only [↓wR,zT,simprocAttr,dm];rw [show jl 260 (jv z) 0 z.ar (vk z)=B7 z from rfl];obtain ⟨e0,bS⟩:∃ e0,B7 z=e0:=⟨_,rfl⟩;rw [bS];refine dr (fun r st'=>r = .gj []/\st'=ay [(zZ z),some (.row [zn z.origin,zs z.ar,zi (jl 261 (fun _ s=>ng s) 0 z.ar e0)] 0 2 146)]) rfl ?_ ?_
 ·refine cb (T:=[fh,je,j5,mj,mz,mr,lj,pf,tt,pg]) ok mixed Tryz.func95 rfl zK zK zK zK ?_;unfold Tryz.f95;simp only [↓wR,zT,simprocAttr];refine da [0,1,2,12,13,14] (fun (x:Nat × Int)=>[.ptr 1 0,zi 261,.sc (.func (.func 97) #[] #[]),zs z.ar,zi z.ar.length,zi x.1]) (fun x=>[(zZ z),some (.row [zn z.origin,zs z.ar,zi x.2] 0 2 146)]) (fun x=>x.1<=z.ar.length/\jl 261 (fun _ s=>ng s) 0 z.ar e0=jl 261 (fun _ s=>ng s) x.1 (z.ar.drop x.1) x.2) (fun x=>z.ar.length - x.1) (0,e0) ⟨zzb _,rfl⟩ zS zS ?_;rintro ⟨i,e⟩ ⟨hi,hx⟩;simp only at hi hx;simp only [↓wR,zT,simprocAttr];rw [az];refine ⟨fun h=>?_,fun h=>?_⟩
  ·obtain ⟨c,hc,aH,hlt⟩:=fi (zp h);rw [zj aH] at hx;have hcs:=hz.set c (zm hc);have bG:(0:Int)<=i/\(i:Int)<=z.ar.length:=zO;simp only [↓wR,zT,simprocAttr,h,hc];rw [de];refine ⟨fun ⟨h1,e1⟩=>?_,fun ⟨h1,e1⟩=>?_⟩
   ·rw [if_pos e1] at hx;simp only [↓wR,zT,simprocAttr,h1,i4,ir,ig];rw [hx]
   ·rw [if_neg zO] at hx;simp only [↓wR,zT,simprocAttr,h1,hcs,hz,bG,ach];refine dr (fun r st'=>r = .gj []/\st'=ay [(zZ z),some (.row [zn z.origin,zs z.ar,zi (ed ((fun _ s=>ng s) i c) 261 e)] 0 2 146),(zY c)]) rfl ?_ ?_
    ·refine cb (T:=[fh,je,j5,mj,mz,mr,lj,pf,tt,pg]) ok mixed Tryz.func100 rfl zK zK zK zK ?_;unfold Tryz.f100;simp only [↓wR,zT,simprocAttr,e1];rw [dv];refine ⟨fun aN=>?_,fun aN=>?_⟩
     ·have hb:((fun _ s=>ng s) i c)=false:=by simpa only [zye] using aN
      have hv:ed ((fun _ s=>ng s) i c) 261 0=261:=by unfold ed;rw [if_pos ⟨rfl,hb⟩]
      simp only [↓wR,zT,simprocAttr,aN,i4,ir,ig]
      try rw [hv]
     ·have hb:((fun _ s=>ng s) i c)=true:=by simpa only [zyj] using aN
      have hv:ed ((fun _ s=>ng s) i c) 261 0=0:=by unfold ed;rw [if_neg (fun q=>by rw [hb] at q;cases q.2)]
      simp only [↓wR,zT,simprocAttr,aN,i4,ir,ig]
      try rw [hv]
    rintro _ _ ⟨rfl,rfl⟩
    repeat (first|simp only [↓wR,zT,simprocAttr,dm]|simp (disch:=omega) only [zW])
    exact ⟨(i+1,ed ((fun _ s=>ng s) i c) 261 e),⟨hlt,hx⟩,by simp;omega,zF,zF⟩
  ·rw [gz (zq h)] at hx;simp only [↓wR,zT,simprocAttr,h,i4,ir,ig];rw [hx];rfl
 rintro _ _ ⟨rfl,rfl⟩;rw [<- bS];clear bS;simp only [↓wR,zT,simprocAttr,dm];rw [show jl 261 (fun _ s=>ng s) 0 z.ar (B7 z)=Kh z from rfl];obtain ⟨e0,bS⟩:∃ e0,Kh z=e0:=⟨_,rfl⟩;rw [bS];refine dr (fun r st'=>r = .gj []/\st'=ay [(zZ z),some (.row [zn z.origin,zs z.ar,zi (jl 262 (fun _ s=>jm s.owner z.origin) 0 z.ar e0)] 0 2 146)]) rfl ?_ ?_
 ·refine cb (T:=[fh,je,j5,mj,mz,mr,lj,pf,tt,pg]) ok mixed Tryz.func95 rfl zK zK zK zK ?_;unfold Tryz.f95;simp only [↓wR,zT,simprocAttr];refine da [0,1,2,12,13,14] (fun (x:Nat × Int)=>[.ptr 1 0,zi 262,.fn (.func 98) [] [.ptr 0 0],zs z.ar,zi z.ar.length,zi x.1]) (fun x=>[(zZ z),some (.row [zn z.origin,zs z.ar,zi x.2] 0 2 146)]) (fun x=>x.1<=z.ar.length/\jl 262 (fun _ s=>jm s.owner z.origin) 0 z.ar e0=jl 262 (fun _ s=>jm s.owner z.origin) x.1 (z.ar.drop x.1) x.2) (fun x=>z.ar.length - x.1) (0,e0) ⟨zzb _,rfl⟩ zS zS ?_;rintro ⟨i,e⟩ ⟨hi,hx⟩;simp only at hi hx;simp only [↓wR,zT,simprocAttr];rw [az];refine ⟨fun h=>?_,fun h=>?_⟩
  ·obtain ⟨c,hc,aH,hlt⟩:=fi (zp h);rw [zj aH] at hx;have hcs:=hz.set c (zm hc);have bG:(0:Int)<=i/\(i:Int)<=z.ar.length:=zO;simp only [↓wR,zT,simprocAttr,h,hc];rw [de];refine ⟨fun ⟨h1,e1⟩=>?_,fun ⟨h1,e1⟩=>?_⟩
   ·rw [if_pos e1] at hx;simp only [↓wR,zT,simprocAttr,h1,i4,ir,ig];rw [hx]
   ·rw [if_neg zO] at hx;simp only [↓wR,zT,simprocAttr,h1,hcs,hz,bG,J2];refine dr (fun r st'=>r = .gj []/\st'=ay [(zZ z),some (.row [zn z.origin,zs z.ar,zi (ed ((fun _ s=>jm s.owner z.origin) i c) 262 e)] 0 2 146),(zY c)]) rfl ?_ ?_
    ·refine cb (T:=[fh,je,j5,mj,mz,mr,lj,pf,tt,pg]) ok mixed Tryz.func100 rfl zK zK zK zK ?_;unfold Tryz.f100;simp only [↓wR,zT,simprocAttr,e1];rw [dv];refine ⟨fun aN=>?_,fun aN=>?_⟩
     ·have hb:((fun _ s=>jm s.owner z.origin) i c)=false:=by simpa only [zye] using aN
      have hv:ed ((fun _ s=>jm s.owner z.origin) i c) 262 0=262:=by unfold ed;rw [if_pos ⟨rfl,hb⟩]
      simp only [↓wR,zT,simprocAttr,aN,i4,ir,ig]
      try rw [hv]
     ·have hb:((fun _ s=>jm s.owner z.origin) i c)=true:=by simpa only [zyj] using aN
      have hv:ed ((fun _ s=>jm s.owner z.origin) i c) 262 0=0:=by unfold ed;rw [if_neg (fun q=>by rw [hb] at q;cases q.2)]
      simp only [↓wR,zT,simprocAttr,aN,i4,ir,ig]
      try rw [hv]
    rintro _ _ ⟨rfl,rfl⟩
    repeat (first|simp only [↓wR,zT,simprocAttr,dm]|simp (disch:=omega) only [zW])
    exact ⟨(i+1,ed ((fun _ s=>jm s.owner z.origin) i c) 262 e),⟨hlt,hx⟩,by simp;omega,zF,zF⟩
  ·rw [gz (zq h)] at hx;simp only [↓wR,zT,simprocAttr,h,i4,ir,ig];rw [hx];rfl
 rintro _ _ ⟨rfl,rfl⟩;rw [<- bS];clear bS;simp only [↓wR,zT,simprocAttr,dm,Rz,hz];rw [show jl 262 (fun _ s=>jm s.owner z.origin) 0 z.ar (Kh z)=tp z from rfl];rw [cp];refine ⟨fun ⟨hs1,CJ⟩=>?_,fun ⟨hs1,CJ⟩=>?_⟩
 ·simp only [↓wR,zT,simprocAttr,hs1];rw [show (((js z).2:Int) == 1)=(decide ((js z).1=1) && decide ((js z).2=1)) from by rw [zp (show (js z).1=1 by omega),Bool.true_and,zyc];simp;omega];refine dr (fun r st'=>r = .gj []/\st'=ay [(zZ z),some (.row [zn z.origin,zs z.ar,zi (ed (decide ((js z).1=1) && decide ((js z).2=1)) 263 (tp z))] 0 2 146)]) rfl ?_ ?_
  ·refine cb (T:=[fh,je,j5,mj,mz,mr,lj,pf,tt,pg]) ok mixed Tryz.func100 rfl zK zK zK zK ?_;unfold Tryz.f100;simp only [↓wR,zT,simprocAttr];rw [cp];refine ⟨fun ⟨cL,fP⟩=>?_,fun ⟨cL,fP⟩=>?_⟩
   ·simp only [↓wR,zT,simprocAttr,cL];rw [dv];refine ⟨fun aN=>?_,fun aN=>?_⟩
    ·have hb:(decide ((js z).1=1) && decide ((js z).2=1))=false:=by simpa only [zye] using aN
     have hv:ed (decide ((js z).1=1) && decide ((js z).2=1)) 263 (tp z)=263:=by unfold ed;rw [if_pos ⟨fP,hb⟩]
     simp only [↓wR,zT,simprocAttr,cL,aN,i4,ir,ig]
     try rw [hv]
    ·have hb:(decide ((js z).1=1) && decide ((js z).2=1))=true:=by simpa only [zyj] using aN
     have hv:ed (decide ((js z).1=1) && decide ((js z).2=1)) 263 (tp z)=tp z:=by unfold ed;rw [if_neg (fun q=>by rw [hb] at q;cases q.2)]
     simp only [↓wR,zT,simprocAttr,cL,aN,i4,ir,ig]
     try rw [hv]
   ·have hv:ed (decide ((js z).1=1) && decide ((js z).2=1)) 263 (tp z)=tp z:=by unfold ed;rw [if_neg (fun q=>fP q.1)]
    simp only [↓wR,zT,simprocAttr,cL,i4,ir,ig]
    try rw [hv]
  rintro _ _ ⟨rfl,rfl⟩;rw [show ed (decide ((js z).1=1) && decide ((js z).2=1)) 263 (tp z)=oz z from rfl];simp only [↓wR,zT,simprocAttr,dm];refine cb (T:=[]) (ak.nil PP) mixed Tryz.func78 rfl zK zK zK zK ?_;unfold Tryz.f78;simp only [↓wR,zT,simprocAttr];refine ⟨[1,3,6,45],?_⟩;have hib:Gs PP 131=some (Tryz.f131.ntmps,Tryz.f131.body.getD .skip):=zK;simp only [↓wR,zT,simprocAttr,hib];refine ⟨zK,fun l=>?_⟩;unfold Tryz.f131;simp only [↓wR,zT,simprocAttr];refine Li [0,2,7,8,9] (fun (x:Nat × Bool)=>[.sc (.func (.yield l) #[] #[]),.ptr 4 0,zs z.ar,zi z.ar.length,zi x.1]) (fun x=>[(zZ z),some (.row [zn z.origin,zs z.ar,zi (oz z)] 0 2 146),some (.row [.sc (.bool (x.2))] 0 2 4),(zZ z),some (.row [.sc (.int .u16 2)] 0 2 50)]) (fun x=>x.1<=z.ar.length/\kn z=(x.2 || Pn z (z.ar.drop x.1))) (fun x=>z.ar.length - x.1) (0,false) ⟨zzb _,by rw [Bool.false_or];rfl⟩ zS zS ?_;rintro ⟨i,b⟩ ⟨hi,hx⟩;simp only at hi hx;simp only [↓wR,zT,simprocAttr];rw [Bo];refine ⟨fun h=>?_,fun h=>?_⟩
  ·obtain ⟨c,hc,aH,hlt⟩:=fi h;have hcs:=hz.set c (zm hc);rw [ah1 aH] at hx;simp only [↓wR,zT,simprocAttr,h,hc];rw [Bo];refine ⟨fun h2=>?_,fun h2=>?_⟩
   ·have e2:(c.type.toNat:Int)=2:=by simpa using h2
    rw [zp e2,Bool.true_and] at hx;simp only [↓wR,zT,simprocAttr,h2];refine E2 [0,2,7,8,9,17,19] ?_;simp only [↓wR,zT,simprocAttr,E6,sm];cases b with
    |true=>
     repeat (first|simp only [↓wR,zT,simprocAttr]|simp (disch:=omega) only [zW])
     exact ⟨(i+1,true),⟨hlt,by rw [hx];rfl⟩,by simp;omega,zF,zF⟩
    |false=>
     repeat (first|simp only [↓wR,zT,simprocAttr,rq,hcs.owner,hz.origin]|simp (disch:=omega) only [zW])
     exact ⟨(i+1,gh c.owner z.origin),⟨hlt,by rw [hx,Bool.false_or]⟩,by simp;omega,zF,zF⟩
   ·have e2:¬ (c.type.toNat:Int)=2:=by simpa using h2
    rw [zq e2,Bool.false_and,Bool.false_or] at hx
    repeat (first|simp only [↓wR,zT,simprocAttr,h2]|simp (disch:=omega) only [zW])
    exact ⟨(i+1,b),⟨hlt,hx⟩,by simp;omega,zF,zF⟩
  rw [gz h] at hx;have hb:b=kn z:=by rw [hx];simp [Pn]
  simp only [↓wR,zT,simprocAttr,h];rw [hb];clear h hx hb;refine dr (fun r st'=>r = .gj []/\st'=ay [(zZ z),some (.row [zn z.origin,zs z.ar,zi (ed (kn z) 264 (oz z))] 0 2 146),some (.row [.sc (.bool (kn z))] 0 2 4),(zZ z),some (.row [.sc (.int .u16 2)] 0 2 50)]) rfl ?_ ?_
  ·refine cb (T:=[fh,je,j5,mj,mz,mr,lj,pf,tt,pg]) ok mixed Tryz.func100 rfl zK zK zK zK ?_;unfold Tryz.f100;simp only [↓wR,zT,simprocAttr];rw [cp];refine ⟨fun ⟨cL,fP⟩=>?_,fun ⟨cL,fP⟩=>?_⟩
   ·simp only [↓wR,zT,simprocAttr,cL];rw [dv];refine ⟨fun aN=>?_,fun aN=>?_⟩
    ·have hb:(kn z)=false:=by simpa only [zye] using aN
     have hv:ed (kn z) 264 (oz z)=264:=by unfold ed;rw [if_pos ⟨fP,hb⟩]
     simp only [↓wR,zT,simprocAttr,cL,aN,i4,ir,ig]
     try rw [hv]
    ·have hb:(kn z)=true:=by simpa only [zyj] using aN
     have hv:ed (kn z) 264 (oz z)=oz z:=by unfold ed;rw [if_neg (fun q=>by rw [hb] at q;cases q.2)]
     simp only [↓wR,zT,simprocAttr,cL,aN,i4,ir,ig]
     try rw [hv]
   ·have hv:ed (kn z) 264 (oz z)=oz z:=by unfold ed;rw [if_neg (fun q=>fP q.1)]
    simp only [↓wR,zT,simprocAttr,cL,i4,ir,ig]
    try rw [hv]
  rintro _ _ ⟨rfl,rfl⟩;rw [show ed (kn z) 264 (oz z)=Cc z from rfl];simp only [↓wR,zT,simprocAttr,dm];obtain ⟨e0,bS⟩:∃ e0,Cc z=e0:=⟨_,rfl⟩;rw [bS];refine dr (fun r st'=>r = .gj []/\st'=ay [(zZ z),some (.row [zn z.origin,zs z.ar,zi (jl 265 (l6 z) 0 z.ar e0)] 0 2 146),some (.row [.sc (.bool (kn z))] 0 2 4),(zZ z),some (.row [.sc (.int .u16 2)] 0 2 50)]) rfl ?_ ?_
  ·refine cb (T:=[fh,je,j5,mj,mz,mr,lj,pf,tt,pg]) ok mixed Tryz.func95 rfl zK zK zK zK ?_;unfold Tryz.f95;simp only [↓wR,zT,simprocAttr];refine da [0,1,2,12,13,14] (fun (x:Nat × Int)=>[.ptr 1 0,zi 265,.fn (.func 101) [.ptr 1 0] [],zs z.ar,zi z.ar.length,zi x.1]) (fun x=>[(zZ z),some (.row [zn z.origin,zs z.ar,zi x.2] 0 2 146),some (.row [.sc (.bool (kn z))] 0 2 4),(zZ z),some (.row [.sc (.int .u16 2)] 0 2 50)]) (fun x=>x.1<=z.ar.length/\jl 265 (l6 z) 0 z.ar e0=jl 265 (l6 z) x.1 (z.ar.drop x.1) x.2) (fun x=>z.ar.length - x.1) (0,e0) ⟨zzb _,rfl⟩ zS zS ?_;rintro ⟨i,e⟩ ⟨hi,hx⟩;simp only at hi hx;simp only [↓wR,zT,simprocAttr];rw [az];refine ⟨fun h=>?_,fun h=>?_⟩
   ·obtain ⟨c,hc,aH,hlt⟩:=fi (zp h);rw [zj aH] at hx;have hcs:=hz.set c (zm hc);have bG:(0:Int)<=i/\(i:Int)<=z.ar.length:=zO;simp only [↓wR,zT,simprocAttr,h,hc];rw [de];refine ⟨fun ⟨h1,e1⟩=>?_,fun ⟨h1,e1⟩=>?_⟩
    ·rw [if_pos e1] at hx;simp only [↓wR,zT,simprocAttr,h1,i4,ir,ig];rw [hx]
    ·rw [if_neg zO] at hx;simp only [↓wR,zT,simprocAttr,h1,hcs,hz,bG,I7];refine dr (fun r st'=>r = .gj []/\st'=ay [(zZ z),some (.row [zn z.origin,zs z.ar,zi (ed ((l6 z) i c) 265 e)] 0 2 146),some (.row [.sc (.bool (kn z))] 0 2 4),(zZ z),some (.row [.sc (.int .u16 2)] 0 2 50),(zY c)]) rfl ?_ ?_
     ·refine cb (T:=[fh,je,j5,mj,mz,mr,lj,pf,tt,pg]) ok mixed Tryz.func100 rfl zK zK zK zK ?_;unfold Tryz.f100;simp only [↓wR,zT,simprocAttr,e1];rw [dv];refine ⟨fun aN=>?_,fun aN=>?_⟩
      ·have hb:((l6 z) i c)=false:=by simpa only [zye] using aN
       have hv:ed ((l6 z) i c) 265 0=265:=by unfold ed;rw [if_pos ⟨rfl,hb⟩]
       simp only [↓wR,zT,simprocAttr,aN,i4,ir,ig]
       try rw [hv]
      ·have hb:((l6 z) i c)=true:=by simpa only [zyj] using aN
       have hv:ed ((l6 z) i c) 265 0=0:=by unfold ed;rw [if_neg (fun q=>by rw [hb] at q;cases q.2)]
       simp only [↓wR,zT,simprocAttr,aN,i4,ir,ig]
       try rw [hv]
     rintro _ _ ⟨rfl,rfl⟩
     repeat (first|simp only [↓wR,zT,simprocAttr,dm]|simp (disch:=omega) only [zW])
     exact ⟨(i+1,ed ((l6 z) i c) 265 e),⟨hlt,hx⟩,by simp;omega,zF,zF⟩
   ·rw [gz (zq h)] at hx;simp only [↓wR,zT,simprocAttr,h,i4,ir,ig];rw [hx];rfl
  rintro _ _ ⟨rfl,rfl⟩;rw [<- bS];clear bS;simp only [↓wR,zT,simprocAttr,dm];rw [show jl 265 (l6 z) 0 z.ar (Cc z)=B9 z from rfl];obtain ⟨e0,bS⟩:∃ e0,B9 z=e0:=⟨_,rfl⟩;rw [bS];refine dr (fun r st'=>r = .gj []/\st'=ay [(zZ z),some (.row [zn z.origin,zs z.ar,zi (jl 266 (fun _ s=>l5 s) 0 z.ar e0)] 0 2 146),some (.row [.sc (.bool (kn z))] 0 2 4),(zZ z),some (.row [.sc (.int .u16 2)] 0 2 50)]) rfl ?_ ?_
  ·refine cb (T:=[fh,je,j5,mj,mz,mr,lj,pf,tt,pg]) ok mixed Tryz.func95 rfl zK zK zK zK ?_;unfold Tryz.f95;simp only [↓wR,zT,simprocAttr];refine da [0,1,2,12,13,14] (fun (x:Nat × Int)=>[.ptr 1 0,zi 266,.sc (.func (.func 102) #[] #[]),zs z.ar,zi z.ar.length,zi x.1]) (fun x=>[(zZ z),some (.row [zn z.origin,zs z.ar,zi x.2] 0 2 146),some (.row [.sc (.bool (kn z))] 0 2 4),(zZ z),some (.row [.sc (.int .u16 2)] 0 2 50)]) (fun x=>x.1<=z.ar.length/\jl 266 (fun _ s=>l5 s) 0 z.ar e0=jl 266 (fun _ s=>l5 s) x.1 (z.ar.drop x.1) x.2) (fun x=>z.ar.length - x.1) (0,e0) ⟨zzb _,rfl⟩ zS zS ?_;rintro ⟨i,e⟩ ⟨hi,hx⟩;simp only at hi hx;simp only [↓wR,zT,simprocAttr];rw [az];refine ⟨fun h=>?_,fun h=>?_⟩
   ·obtain ⟨c,hc,aH,hlt⟩:=fi (zp h);rw [zj aH] at hx;have hcs:=hz.set c (zm hc);have bG:(0:Int)<=i/\(i:Int)<=z.ar.length:=zO;simp only [↓wR,zT,simprocAttr,h,hc];rw [de];refine ⟨fun ⟨h1,e1⟩=>?_,fun ⟨h1,e1⟩=>?_⟩
    ·rw [if_pos e1] at hx;simp only [↓wR,zT,simprocAttr,h1,i4,ir,ig];rw [hx]
    ·rw [if_neg zO] at hx;simp only [↓wR,zT,simprocAttr,h1,hcs,hz,bG,Nk];refine dr (fun r st'=>r = .gj []/\st'=ay [(zZ z),some (.row [zn z.origin,zs z.ar,zi (ed ((fun _ s=>l5 s) i c) 266 e)] 0 2 146),some (.row [.sc (.bool (kn z))] 0 2 4),(zZ z),some (.row [.sc (.int .u16 2)] 0 2 50),(zY c)]) rfl ?_ ?_
     ·refine cb (T:=[fh,je,j5,mj,mz,mr,lj,pf,tt,pg]) ok mixed Tryz.func100 rfl zK zK zK zK ?_;unfold Tryz.f100;simp only [↓wR,zT,simprocAttr,e1];rw [dv];refine ⟨fun aN=>?_,fun aN=>?_⟩
      ·have hb:((fun _ s=>l5 s) i c)=false:=by simpa only [zye] using aN
       have hv:ed ((fun _ s=>l5 s) i c) 266 0=266:=by unfold ed;rw [if_pos ⟨rfl,hb⟩]
       simp only [↓wR,zT,simprocAttr,aN,i4,ir,ig]
       try rw [hv]
      ·have hb:((fun _ s=>l5 s) i c)=true:=by simpa only [zyj] using aN
       have hv:ed ((fun _ s=>l5 s) i c) 266 0=0:=by unfold ed;rw [if_neg (fun q=>by rw [hb] at q;cases q.2)]
       simp only [↓wR,zT,simprocAttr,aN,i4,ir,ig]
       try rw [hv]
     rintro _ _ ⟨rfl,rfl⟩
     repeat (first|simp only [↓wR,zT,simprocAttr,dm]|simp (disch:=omega) only [zW])
     exact ⟨(i+1,ed ((fun _ s=>l5 s) i c) 266 e),⟨hlt,hx⟩,by simp;omega,zF,zF⟩
   ·rw [gz (zq h)] at hx;simp only [↓wR,zT,simprocAttr,h,i4,ir,ig];rw [hx];rfl
  rintro _ _ ⟨rfl,rfl⟩;rw [<- bS];clear bS;simp only [↓wR,zT,simprocAttr,dm];rw [show jl 266 (fun _ s=>l5 s) 0 z.ar (B9 z)=G9 z from rfl];obtain ⟨e0,bS⟩:∃ e0,G9 z=e0:=⟨_,rfl⟩;rw [bS];refine dr (fun r st'=>r = .gj []/\st'=ay [(zZ z),some (.row [zn z.origin,zs z.ar,zi (jl 267 (fun _ s=>pz z s) 0 z.ar e0)] 0 2 146),some (.row [.sc (.bool (kn z))] 0 2 4),(zZ z),some (.row [.sc (.int .u16 2)] 0 2 50)]) rfl ?_ ?_
  ·refine cb (T:=[fh,je,j5,mj,mz,mr,lj,pf,tt,pg]) ok mixed Tryz.func95 rfl zK zK zK zK ?_;unfold Tryz.f95;simp only [↓wR,zT,simprocAttr];refine da [0,1,2,12,13,14] (fun (x:Nat × Int)=>[.ptr 1 0,zi 267,.fn (.func 103) [] [.ptr 0 0],zs z.ar,zi z.ar.length,zi x.1]) (fun x=>[(zZ z),some (.row [zn z.origin,zs z.ar,zi x.2] 0 2 146),some (.row [.sc (.bool (kn z))] 0 2 4),(zZ z),some (.row [.sc (.int .u16 2)] 0 2 50)]) (fun x=>x.1<=z.ar.length/\jl 267 (fun _ s=>pz z s) 0 z.ar e0=jl 267 (fun _ s=>pz z s) x.1 (z.ar.drop x.1) x.2) (fun x=>z.ar.length - x.1) (0,e0) ⟨zzb _,rfl⟩ zS zS ?_;rintro ⟨i,e⟩ ⟨hi,hx⟩;simp only at hi hx;simp only [↓wR,zT,simprocAttr];rw [az];refine ⟨fun h=>?_,fun h=>?_⟩
   ·obtain ⟨c,hc,aH,hlt⟩:=fi (zp h);rw [zj aH] at hx;have hcs:=hz.set c (zm hc);have bG:(0:Int)<=i/\(i:Int)<=z.ar.length:=zO;simp only [↓wR,zT,simprocAttr,h,hc];rw [de];refine ⟨fun ⟨h1,e1⟩=>?_,fun ⟨h1,e1⟩=>?_⟩
    ·rw [if_pos e1] at hx;simp only [↓wR,zT,simprocAttr,h1,i4,ir,ig];rw [hx]
    ·rw [if_neg zO] at hx;simp only [↓wR,zT,simprocAttr,h1,hcs,hz,bG,Tz];refine dr (fun r st'=>r = .gj []/\st'=ay [(zZ z),some (.row [zn z.origin,zs z.ar,zi (ed ((fun _ s=>pz z s) i c) 267 e)] 0 2 146),some (.row [.sc (.bool (kn z))] 0 2 4),(zZ z),some (.row [.sc (.int .u16 2)] 0 2 50),(zY c)]) rfl ?_ ?_
     ·refine cb (T:=[fh,je,j5,mj,mz,mr,lj,pf,tt,pg]) ok mixed Tryz.func100 rfl zK zK zK zK ?_;unfold Tryz.f100;simp only [↓wR,zT,simprocAttr,e1];rw [dv];refine ⟨fun aN=>?_,fun aN=>?_⟩
      ·have hb:((fun _ s=>pz z s) i c)=false:=by simpa only [zye] using aN
       have hv:ed ((fun _ s=>pz z s) i c) 267 0=267:=by unfold ed;rw [if_pos ⟨rfl,hb⟩]
       simp only [↓wR,zT,simprocAttr,aN,i4,ir,ig]
       try rw [hv]
      ·have hb:((fun _ s=>pz z s) i c)=true:=by simpa only [zyj] using aN
       have hv:ed ((fun _ s=>pz z s) i c) 267 0=0:=by unfold ed;rw [if_neg (fun q=>by rw [hb] at q;cases q.2)]
       simp only [↓wR,zT,simprocAttr,aN,i4,ir,ig]
       try rw [hv]
     rintro _ _ ⟨rfl,rfl⟩
     repeat (first|simp only [↓wR,zT,simprocAttr,dm]|simp (disch:=omega) only [zW])
     exact ⟨(i+1,ed ((fun _ s=>pz z s) i c) 267 e),⟨hlt,hx⟩,by simp;omega,zF,zF⟩
   ·rw [gz (zq h)] at hx;simp only [↓wR,zT,simprocAttr,h,i4,ir,ig];rw [hx];rfl
  rintro _ _ ⟨rfl,rfl⟩;rw [<- bS];clear bS;simp only [↓wR,zT,simprocAttr,dm];rfl
 ·simp only [↓wR,zT,simprocAttr,hs1];have AZ:(decide ((js z).1=1) && decide ((js z).2=1))=false:=by rw [zq (show ¬ (js z).1=1 by omega),Bool.false_and]
  refine dr (fun r st'=>r = .gj []/\st'=ay [(zZ z),some (.row [zn z.origin,zs z.ar,zi (ed (decide ((js z).1=1) && decide ((js z).2=1)) 263 (tp z))] 0 2 146)]) rfl ?_ ?_
  ·refine cb (T:=[fh,je,j5,mj,mz,mr,lj,pf,tt,pg]) ok mixed Tryz.func100 rfl zK zK zK zK ?_;unfold Tryz.f100;simp only [↓wR,zT,simprocAttr];rw [cp];refine ⟨fun ⟨cL,fP⟩=>?_,fun ⟨cL,fP⟩=>?_⟩
   ·have hv:ed (decide ((js z).1=1) && decide ((js z).2=1)) 263 (tp z)=263:=by unfold ed;rw [if_pos ⟨fP,AZ⟩]
    simp only [↓wR,zT,simprocAttr,cL,i4,ir,ig]
    try rw [hv]
   ·have hv:ed (decide ((js z).1=1) && decide ((js z).2=1)) 263 (tp z)=tp z:=by unfold ed;rw [if_neg (fun q=>fP q.1)]
    simp only [↓wR,zT,simprocAttr,cL,i4,ir,ig]
    try rw [hv]
  rintro _ _ ⟨rfl,rfl⟩;rw [show ed (decide ((js z).1=1) && decide ((js z).2=1)) 263 (tp z)=oz z from rfl];simp only [↓wR,zT,simprocAttr,dm];refine cb (T:=[]) (ak.nil PP) mixed Tryz.func78 rfl zK zK zK zK ?_;unfold Tryz.f78;simp only [↓wR,zT,simprocAttr];refine ⟨[1,3,6,45],?_⟩;have hib:Gs PP 131=some (Tryz.f131.ntmps,Tryz.f131.body.getD .skip):=zK;simp only [↓wR,zT,simprocAttr,hib];refine ⟨zK,fun l=>?_⟩;unfold Tryz.f131;simp only [↓wR,zT,simprocAttr];refine Li [0,2,7,8,9] (fun (x:Nat × Bool)=>[.sc (.func (.yield l) #[] #[]),.ptr 4 0,zs z.ar,zi z.ar.length,zi x.1]) (fun x=>[(zZ z),some (.row [zn z.origin,zs z.ar,zi (oz z)] 0 2 146),some (.row [.sc (.bool (x.2))] 0 2 4),(zZ z),some (.row [.sc (.int .u16 2)] 0 2 50)]) (fun x=>x.1<=z.ar.length/\kn z=(x.2 || Pn z (z.ar.drop x.1))) (fun x=>z.ar.length - x.1) (0,false) ⟨zzb _,by rw [Bool.false_or];rfl⟩ zS zS ?_;rintro ⟨i,b⟩ ⟨hi,hx⟩;simp only at hi hx;simp only [↓wR,zT,simprocAttr];rw [Bo];refine ⟨fun h=>?_,fun h=>?_⟩
  ·obtain ⟨c,hc,aH,hlt⟩:=fi h;have hcs:=hz.set c (zm hc);rw [ah1 aH] at hx;simp only [↓wR,zT,simprocAttr,h,hc];rw [Bo];refine ⟨fun h2=>?_,fun h2=>?_⟩
   ·have e2:(c.type.toNat:Int)=2:=by simpa using h2
    rw [zp e2,Bool.true_and] at hx;simp only [↓wR,zT,simprocAttr,h2];refine E2 [0,2,7,8,9,17,19] ?_;simp only [↓wR,zT,simprocAttr,E6,sm];cases b with
    |true=>
     repeat (first|simp only [↓wR,zT,simprocAttr]|simp (disch:=omega) only [zW])
     exact ⟨(i+1,true),⟨hlt,by rw [hx];rfl⟩,by simp;omega,zF,zF⟩
    |false=>
     repeat (first|simp only [↓wR,zT,simprocAttr,rq,hcs.owner,hz.origin]|simp (disch:=omega) only [zW])
     exact ⟨(i+1,gh c.owner z.origin),⟨hlt,by rw [hx,Bool.false_or]⟩,by simp;omega,zF,zF⟩
   ·have e2:¬ (c.type.toNat:Int)=2:=by simpa using h2
    rw [zq e2,Bool.false_and,Bool.false_or] at hx
    repeat (first|simp only [↓wR,zT,simprocAttr,h2]|simp (disch:=omega) only [zW])
    exact ⟨(i+1,b),⟨hlt,hx⟩,by simp;omega,zF,zF⟩
  rw [gz h] at hx;have hb:b=kn z:=by rw [hx];simp [Pn]
  simp only [↓wR,zT,simprocAttr,h];rw [hb];clear h hx hb;refine dr (fun r st'=>r = .gj []/\st'=ay [(zZ z),some (.row [zn z.origin,zs z.ar,zi (ed (kn z) 264 (oz z))] 0 2 146),some (.row [.sc (.bool (kn z))] 0 2 4),(zZ z),some (.row [.sc (.int .u16 2)] 0 2 50)]) rfl ?_ ?_
  ·refine cb (T:=[fh,je,j5,mj,mz,mr,lj,pf,tt,pg]) ok mixed Tryz.func100 rfl zK zK zK zK ?_;unfold Tryz.f100;simp only [↓wR,zT,simprocAttr];rw [cp];refine ⟨fun ⟨cL,fP⟩=>?_,fun ⟨cL,fP⟩=>?_⟩
   ·simp only [↓wR,zT,simprocAttr,cL];rw [dv];refine ⟨fun aN=>?_,fun aN=>?_⟩
    ·have hb:(kn z)=false:=by simpa only [zye] using aN
     have hv:ed (kn z) 264 (oz z)=264:=by unfold ed;rw [if_pos ⟨fP,hb⟩]
     simp only [↓wR,zT,simprocAttr,cL,aN,i4,ir,ig]
     try rw [hv]
    ·have hb:(kn z)=true:=by simpa only [zyj] using aN
     have hv:ed (kn z) 264 (oz z)=oz z:=by unfold ed;rw [if_neg (fun q=>by rw [hb] at q;cases q.2)]
     simp only [↓wR,zT,simprocAttr,cL,aN,i4,ir,ig]
     try rw [hv]
   ·have hv:ed (kn z) 264 (oz z)=oz z:=by unfold ed;rw [if_neg (fun q=>fP q.1)]
    simp only [↓wR,zT,simprocAttr,cL,i4,ir,ig]
    try rw [hv]
  rintro _ _ ⟨rfl,rfl⟩;rw [show ed (kn z) 264 (oz z)=Cc z from rfl];simp only [↓wR,zT,simprocAttr,dm];obtain ⟨e0,bS⟩:∃ e0,Cc z=e0:=⟨_,rfl⟩;rw [bS];refine dr (fun r st'=>r = .gj []/\st'=ay [(zZ z),some (.row [zn z.origin,zs z.ar,zi (jl 265 (l6 z) 0 z.ar e0)] 0 2 146),some (.row [.sc (.bool (kn z))] 0 2 4),(zZ z),some (.row [.sc (.int .u16 2)] 0 2 50)]) rfl ?_ ?_
  ·refine cb (T:=[fh,je,j5,mj,mz,mr,lj,pf,tt,pg]) ok mixed Tryz.func95 rfl zK zK zK zK ?_;unfold Tryz.f95;simp only [↓wR,zT,simprocAttr];refine da [0,1,2,12,13,14] (fun (x:Nat × Int)=>[.ptr 1 0,zi 265,.fn (.func 101) [.ptr 1 0] [],zs z.ar,zi z.ar.length,zi x.1]) (fun x=>[(zZ z),some (.row [zn z.origin,zs z.ar,zi x.2] 0 2 146),some (.row [.sc (.bool (kn z))] 0 2 4),(zZ z),some (.row [.sc (.int .u16 2)] 0 2 50)]) (fun x=>x.1<=z.ar.length/\jl 265 (l6 z) 0 z.ar e0=jl 265 (l6 z) x.1 (z.ar.drop x.1) x.2) (fun x=>z.ar.length - x.1) (0,e0) ⟨zzb _,rfl⟩ zS zS ?_;rintro ⟨i,e⟩ ⟨hi,hx⟩;simp only at hi hx;simp only [↓wR,zT,simprocAttr];rw [az];refine ⟨fun h=>?_,fun h=>?_⟩
   ·obtain ⟨c,hc,aH,hlt⟩:=fi (zp h);rw [zj aH] at hx;have hcs:=hz.set c (zm hc);have bG:(0:Int)<=i/\(i:Int)<=z.ar.length:=zO;simp only [↓wR,zT,simprocAttr,h,hc];rw [de];refine ⟨fun ⟨h1,e1⟩=>?_,fun ⟨h1,e1⟩=>?_⟩
    ·rw [if_pos e1] at hx;simp only [↓wR,zT,simprocAttr,h1,i4,ir,ig];rw [hx]
    ·rw [if_neg zO] at hx;simp only [↓wR,zT,simprocAttr,h1,hcs,hz,bG,I7];refine dr (fun r st'=>r = .gj []/\st'=ay [(zZ z),some (.row [zn z.origin,zs z.ar,zi (ed ((l6 z) i c) 265 e)] 0 2 146),some (.row [.sc (.bool (kn z))] 0 2 4),(zZ z),some (.row [.sc (.int .u16 2)] 0 2 50),(zY c)]) rfl ?_ ?_
     ·refine cb (T:=[fh,je,j5,mj,mz,mr,lj,pf,tt,pg]) ok mixed Tryz.func100 rfl zK zK zK zK ?_;unfold Tryz.f100;simp only [↓wR,zT,simprocAttr,e1];rw [dv];refine ⟨fun aN=>?_,fun aN=>?_⟩
      ·have hb:((l6 z) i c)=false:=by simpa only [zye] using aN
       have hv:ed ((l6 z) i c) 265 0=265:=by unfold ed;rw [if_pos ⟨rfl,hb⟩]
       simp only [↓wR,zT,simprocAttr,aN,i4,ir,ig]
       try rw [hv]
      ·have hb:((l6 z) i c)=true:=by simpa only [zyj] using aN
       have hv:ed ((l6 z) i c) 265 0=0:=by unfold ed;rw [if_neg (fun q=>by rw [hb] at q;cases q.2)]
       simp only [↓wR,zT,simprocAttr,aN,i4,ir,ig]
       try rw [hv]
     rintro _ _ ⟨rfl,rfl⟩
     repeat (first|simp only [↓wR,zT,simprocAttr,dm]|simp (disch:=omega) only [zW])
     exact ⟨(i+1,ed ((l6 z) i c) 265 e),⟨hlt,hx⟩,by simp;omega,zF,zF⟩
   ·rw [gz (zq h)] at hx;simp only [↓wR,zT,simprocAttr,h,i4,ir,ig];rw [hx];rfl
  rintro _ _ ⟨rfl,rfl⟩;rw [<- bS];clear bS;simp only [↓wR,zT,simprocAttr,dm];rw [show jl 265 (l6 z) 0 z.ar (Cc z)=B9 z from rfl];obtain ⟨e0,bS⟩:∃ e0,B9 z=e0:=⟨_,rfl⟩;rw [bS];refine dr (fun r st'=>r = .gj []/\st'=ay [(zZ z),some (.row [zn z.origin,zs z.ar,zi (jl 266 (fun _ s=>l5 s) 0 z.ar e0)] 0 2 146),some (.row [.sc (.bool (kn z))] 0 2 4),(zZ z),some (.row [.sc (.int .u16 2)] 0 2 50)]) rfl ?_ ?_
  ·refine cb (T:=[fh,je,j5,mj,mz,mr,lj,pf,tt,pg]) ok mixed Tryz.func95 rfl zK zK zK zK ?_;unfold Tryz.f95;simp only [↓wR,zT,simprocAttr];refine da [0,1,2,12,13,14] (fun (x:Nat × Int)=>[.ptr 1 0,zi 266,.sc (.func (.func 102) #[] #[]),zs z.ar,zi z.ar.length,zi x.1]) (fun x=>[(zZ z),some (.row [zn z.origin,zs z.ar,zi x.2] 0 2 146),some (.row [.sc (.bool (kn z))] 0 2 4),(zZ z),some (.row [.sc (.int .u16 2)] 0 2 50)]) (fun x=>x.1<=z.ar.length/\jl 266 (fun _ s=>l5 s) 0 z.ar e0=jl 266 (fun _ s=>l5 s) x.1 (z.ar.drop x.1) x.2) (fun x=>z.ar.length - x.1) (0,e0) ⟨zzb _,rfl⟩ zS zS ?_;rintro ⟨i,e⟩ ⟨hi,hx⟩;simp only at hi hx;simp only [↓wR,zT,simprocAttr];rw [az];refine ⟨fun h=>?_,fun h=>?_⟩
   ·obtain ⟨c,hc,aH,hlt⟩:=fi (zp h);rw [zj aH] at hx;have hcs:=hz.set c (zm hc);have bG:(0:Int)<=i/\(i:Int)<=z.ar.length:=zO;simp only [↓wR,zT,simprocAttr,h,hc];rw [de];refine ⟨fun ⟨h1,e1⟩=>?_,fun ⟨h1,e1⟩=>?_⟩
    ·rw [if_pos e1] at hx;simp only [↓wR,zT,simprocAttr,h1,i4,ir,ig];rw [hx]
    ·rw [if_neg zO] at hx;simp only [↓wR,zT,simprocAttr,h1,hcs,hz,bG,Nk];refine dr (fun r st'=>r = .gj []/\st'=ay [(zZ z),some (.row [zn z.origin,zs z.ar,zi (ed ((fun _ s=>l5 s) i c) 266 e)] 0 2 146),some (.row [.sc (.bool (kn z))] 0 2 4),(zZ z),some (.row [.sc (.int .u16 2)] 0 2 50),(zY c)]) rfl ?_ ?_
     ·refine cb (T:=[fh,je,j5,mj,mz,mr,lj,pf,tt,pg]) ok mixed Tryz.func100 rfl zK zK zK zK ?_;unfold Tryz.f100;simp only [↓wR,zT,simprocAttr,e1];rw [dv];refine ⟨fun aN=>?_,fun aN=>?_⟩
      ·have hb:((fun _ s=>l5 s) i c)=false:=by simpa only [zye] using aN
       have hv:ed ((fun _ s=>l5 s) i c) 266 0=266:=by unfold ed;rw [if_pos ⟨rfl,hb⟩]
       simp only [↓wR,zT,simprocAttr,aN,i4,ir,ig]
       try rw [hv]
      ·have hb:((fun _ s=>l5 s) i c)=true:=by simpa only [zyj] using aN
       have hv:ed ((fun _ s=>l5 s) i c) 266 0=0:=by unfold ed;rw [if_neg (fun q=>by rw [hb] at q;cases q.2)]
       simp only [↓wR,zT,simprocAttr,aN,i4,ir,ig]
       try rw [hv]
     rintro _ _ ⟨rfl,rfl⟩
     repeat (first|simp only [↓wR,zT,simprocAttr,dm]|simp (disch:=omega) only [zW])
     exact ⟨(i+1,ed ((fun _ s=>l5 s) i c) 266 e),⟨hlt,hx⟩,by simp;omega,zF,zF⟩
   ·rw [gz (zq h)] at hx;simp only [↓wR,zT,simprocAttr,h,i4,ir,ig];rw [hx];rfl
  rintro _ _ ⟨rfl,rfl⟩;rw [<- bS];clear bS;simp only [↓wR,zT,simprocAttr,dm];rw [show jl 266 (fun _ s=>l5 s) 0 z.ar (B9 z)=G9 z from rfl];obtain ⟨e0,bS⟩:∃ e0,G9 z=e0:=⟨_,rfl⟩;rw [bS];refine dr (fun r st'=>r = .gj []/\st'=ay [(zZ z),some (.row [zn z.origin,zs z.ar,zi (jl 267 (fun _ s=>pz z s) 0 z.ar e0)] 0 2 146),some (.row [.sc (.bool (kn z))] 0 2 4),(zZ z),some (.row [.sc (.int .u16 2)] 0 2 50)]) rfl ?_ ?_
  ·refine cb (T:=[fh,je,j5,mj,mz,mr,lj,pf,tt,pg]) ok mixed Tryz.func95 rfl zK zK zK zK ?_;unfold Tryz.f95;simp only [↓wR,zT,simprocAttr];refine da [0,1,2,12,13,14] (fun (x:Nat × Int)=>[.ptr 1 0,zi 267,.fn (.func 103) [] [.ptr 0 0],zs z.ar,zi z.ar.length,zi x.1]) (fun x=>[(zZ z),some (.row [zn z.origin,zs z.ar,zi x.2] 0 2 146),some (.row [.sc (.bool (kn z))] 0 2 4),(zZ z),some (.row [.sc (.int .u16 2)] 0 2 50)]) (fun x=>x.1<=z.ar.length/\jl 267 (fun _ s=>pz z s) 0 z.ar e0=jl 267 (fun _ s=>pz z s) x.1 (z.ar.drop x.1) x.2) (fun x=>z.ar.length - x.1) (0,e0) ⟨zzb _,rfl⟩ zS zS ?_;rintro ⟨i,e⟩ ⟨hi,hx⟩;simp only at hi hx;simp only [↓wR,zT,simprocAttr];rw [az];refine ⟨fun h=>?_,fun h=>?_⟩
   ·obtain ⟨c,hc,aH,hlt⟩:=fi (zp h);rw [zj aH] at hx;have hcs:=hz.set c (zm hc);have bG:(0:Int)<=i/\(i:Int)<=z.ar.length:=zO;simp only [↓wR,zT,simprocAttr,h,hc];rw [de];refine ⟨fun ⟨h1,e1⟩=>?_,fun ⟨h1,e1⟩=>?_⟩
    ·rw [if_pos e1] at hx;simp only [↓wR,zT,simprocAttr,h1,i4,ir,ig];rw [hx]
    ·rw [if_neg zO] at hx;simp only [↓wR,zT,simprocAttr,h1,hcs,hz,bG,Tz];refine dr (fun r st'=>r = .gj []/\st'=ay [(zZ z),some (.row [zn z.origin,zs z.ar,zi (ed ((fun _ s=>pz z s) i c) 267 e)] 0 2 146),some (.row [.sc (.bool (kn z))] 0 2 4),(zZ z),some (.row [.sc (.int .u16 2)] 0 2 50),(zY c)]) rfl ?_ ?_
     ·refine cb (T:=[fh,je,j5,mj,mz,mr,lj,pf,tt,pg]) ok mixed Tryz.func100 rfl zK zK zK zK ?_;unfold Tryz.f100;simp only [↓wR,zT,simprocAttr,e1];rw [dv];refine ⟨fun aN=>?_,fun aN=>?_⟩
      ·have hb:((fun _ s=>pz z s) i c)=false:=by simpa only [zye] using aN
       have hv:ed ((fun _ s=>pz z s) i c) 267 0=267:=by unfold ed;rw [if_pos ⟨rfl,hb⟩]
       simp only [↓wR,zT,simprocAttr,aN,i4,ir,ig]
       try rw [hv]
      ·have hb:((fun _ s=>pz z s) i c)=true:=by simpa only [zyj] using aN
       have hv:ed ((fun _ s=>pz z s) i c) 267 0=0:=by unfold ed;rw [if_neg (fun q=>by rw [hb] at q;cases q.2)]
       simp only [↓wR,zT,simprocAttr,aN,i4,ir,ig]
       try rw [hv]
     rintro _ _ ⟨rfl,rfl⟩
     repeat (first|simp only [↓wR,zT,simprocAttr,dm]|simp (disch:=omega) only [zW])
     exact ⟨(i+1,ed ((fun _ s=>pz z s) i c) 267 e),⟨hlt,hx⟩,by simp;omega,zF,zF⟩
   ·rw [gz (zq h)] at hx;simp only [↓wR,zT,simprocAttr,h,i4,ir,ig];rw [hx];rfl
  rintro _ _ ⟨rfl,rfl⟩;rw [<- bS];clear bS;simp only [↓wR,zT,simprocAttr,dm];rfl
noncomputable def Ng (x:cf × Unit):Option AV:=if dj x.1 then some ((r1 (bh .i64)).E true (ox x.1)) else none
theorem apk (x:cf × Unit) (r:AV) (h:Ng x=some r):bo PP 57 ((aC c7 a0).E x) r:=by obtain ⟨hc,rfl⟩:=zI h;exact bf (ak.cons (aq u7) (ak.cons (aq Aa) (ak.cons (aq Qc) (ak.cons (aq We) (ak.cons (aq Vn) (ak.cons (aq Vg) (ak.cons (aq Sf) (ak.cons (aq Z9) (ak.cons (aq afb) (ak.cons (aq aaq) (ak.nil PP))))))))))) Tryz.func57 zK zK zK zL (r1 (bh .i64)) true (ox x.1) (alp x.1 hc)
noncomputable abbrev aH5:zE:=(57,true,dg (aC c7 a0) Ng)
end Go.Proofs.YtjagjbceegbaiaaGreat
end
section
namespace Go.Proofs.YtjagjbceegbaiaaGreat
open Go.Vm
theorem yd {a b:Name}:gh a b=true↔fv a=fv b:=by simp [gh]
theorem Us:∀ a:List UInt8,Lib.compareBytes a a=0
 | []=>rfl
 |a::r=>by rw [Lib.compareBytes,if_neg (UInt8.lt_irrefl a),if_neg (UInt8.lt_irrefl a)];exact Us r
theorem Ty:∀ a b:List UInt8,Lib.compareBytes a b=0->a=b
 | [],[],_=>rfl
 | [],_::_,h=>by cases h
 |_::_,[],h=>by cases h
 |a::r,b::q,h=>by
  rw [Lib.compareBytes] at h
  split at h
  ·cases h
  ·rename_i h1
   split at h
   ·cases h
   ·rename_i h2;rw [UInt8.lt_iff_toNat_lt] at h1 h2;rw [UInt8.toNat_inj.1 (show a.toNat=b.toNat by omega),Ty r q h]
theorem W9:∀ a b c:List UInt8,Lib.compareBytes a b<0->Lib.compareBytes b c<0->Lib.compareBytes a c<0
 |_,[],[],_,h=>by cases h
 |_,_::_,[],_,h=>by cases h
 | [],_,_::_,_,_=>by show (-1:Int)<0;decide
 |_::_,[],_::_,h,_=>by cases h
 |a::r,b::q,c::p,h1,h2=>by
  have ih:=W9 r q p;rw [Lib.compareBytes] at h1 h2 ⊢;simp only [UInt8.lt_iff_toNat_lt] at h1 h2 ⊢
  split at h1
  ·split at h2
   ·rw [if_pos zO];decide
   ·split at h2
    ·cases h2
    ·rw [if_pos zO];decide
  ·split at h1
   ·cases h1
   ·split at h2
    ·rw [if_pos zO];decide
    ·split at h2
     ·cases h2
     ·rw [if_neg zO,if_neg zO];exact ih h1 h2
theorem N0:∀ a b:List UInt8,Lib.compareBytes a b = - Lib.compareBytes b a
 | [],[]=>rfl
 | [],_::_=>rfl
 |_::_,[]=>rfl
 |a::r,b::q=>by
  have ih:=N0 r q;rw [Lib.compareBytes,Lib.compareBytes];simp only [UInt8.lt_iff_toNat_lt];by_cases h1:a.toNat<b.toNat
  ·rw [if_pos h1,if_neg (show ¬ b.toNat<a.toNat by omega),if_pos h1]
  ·by_cases h2:b.toNat<a.toNat
   ·rw [if_neg h1,if_pos h2,if_pos h2];rfl
   ·rw [if_neg h1,if_neg h2,if_neg h2,if_neg h1];exact ih
theorem awo (a:ByteArray):An a a=0:=Us _
theorem ad3 {a b:ByteArray} (h:An a b=0):a=b:=by have:=Ty _ _ h;obtain ⟨⟨a⟩⟩:=a;obtain ⟨⟨b⟩⟩:=b;simp only at this;rw [this]
noncomputable def r9:List ByteArray->List ByteArray->Int
 | [],[]=>0
 | [],_::_=>-1
 |_::_,[]=>1
 |a::r,b::q=>if a=b then r9 r q else An a b
theorem adv:∀ r q:List ByteArray,r9 r q=0↔r=q
 | [],[]=>by simp [r9]
 | [],_::_=>by simp [r9]
 |_::_,[]=>by simp [r9]
 |a::r,b::q=>by
  rw [r9]
  split
  ·rename_i h;rw [adv r q,h];simp
  ·rename_i h;constructor
   ·intro e;exact (h (ad3 e)).elim
   ·intro e;exact (h (List.cons.inj e).1).elim
theorem Zm:∀ r q p:List ByteArray,r9 r q<0->r9 q p<0->r9 r p<0
 |_,[],[],_,h=>by rw [r9] at h;cases h
 |_,_::_,[],_,h=>by rw [r9] at h;cases h
 | [],_,_::_,_,_=>by rw [r9];decide
 |_::_,[],_::_,h,_=>by rw [r9] at h;cases h
 |a::r,b::q,c::p,h1,h2=>by
  have ih:=Zm r q p;rw [r9] at h1 h2 ⊢;by_cases e1:a=b
  ·subst e1;rw [if_pos rfl] at h1;by_cases e2:a=c
   ·rw [if_pos e2] at h2 ⊢;exact ih h1 h2
   ·rw [if_neg e2] at h2 ⊢;exact h2
  ·rw [if_neg e1] at h1;by_cases e2:b=c
   ·subst e2;rw [if_neg e1];exact h1
   ·rw [if_neg e2] at h2;have h3:An a c<0:=W9 _ _ _ h1 h2;rw [if_neg (fun e=>by rw [e,awo] at h3;cases h3)];exact h3
theorem adu:∀ r q:List ByteArray,r9 r q = - r9 q r
 | [],[]=>by simp [r9]
 | [],_::_=>by simp [r9]
 |_::_,[]=>by simp [r9]
 |a::r,b::q=>by
  rw [r9,r9];by_cases e:a=b
  ·rw [if_pos e,if_pos e.symm];exact adu r q
  ·rw [if_neg e,if_neg (fun q=>e q.symm)];exact N0 _ _
theorem aj7:∀ r q:List ByteArray,(if gw r q=r.length/\gw r q=q.length then (0:Int) else if gw r q=r.length then -1 else if gw r q=q.length then 1 else
 match r[gw r q]?,q[gw r q]? with|some x,some y=>An (fold x) (fold y)|_,_=>0)=r9 (r.map fold) (q.map fold)
 | [],[]=>by simp [gw,r9]
 | [],_::_=>by simp [gw,r9]
 |_::_,[]=>by simp [gw,r9]
 |a::r,b::q=>by
  have ih:=aj7 r q;rw [List.map_cons,List.map_cons,r9];by_cases e:fold a=fold b
  ·rw [if_pos e,<- ih];have hc:gw (a::r) (b::q)=gw r q+1:=by rw [gw,if_pos e]
   simp only [hc,List.length_cons,Nat.add_right_cancel_iff,List.getElem?_cons_succ]
  ·rw [if_neg e];have hc:gw (a::r) (b::q)=0:=by rw [gw,if_neg e]
   simp only [hc,List.length_cons,List.getElem?_cons_zero];rw [if_neg zO,if_neg zO,if_neg zO]
theorem Hn (a b:Name):ry a b=r9 (fv a).reverse (fv b).reverse:=by
 have h:=aj7 a.reverse b.reverse;rw [List.map_reverse,List.map_reverse,List.length_reverse,List.length_reverse] at h;unfold ry;change _=r9 (a.map fold).reverse (b.map fold).reverse;rw [<- h];have hk:common a b=gw a.reverse b.reverse:=rfl;rw [hk];by_cases h1:gw a.reverse b.reverse=a.length/\gw a.reverse b.reverse=b.length
 ·rw [if_pos h1,if_pos h1]
 rw [if_neg h1,if_neg h1];by_cases h2:gw a.reverse b.reverse=a.length
 ·rw [if_pos h2,if_pos h2]
 rw [if_neg h2,if_neg h2];by_cases h3:gw a.reverse b.reverse=b.length
 ·rw [if_pos h3,if_pos h3]
 rw [if_neg h3,if_neg h3];have l1:=Dw a.reverse b.reverse;have l2:=Ir a.reverse b.reverse;rw [List.length_reverse] at l1 l2;unfold ahh;rw [List.getElem?_reverse zO,List.getElem?_reverse zO]
 try rfl
theorem Hg {a b:Name}:ry a b=0↔gh a b=true:=by
 rw [Hn,adv,yd];constructor
 ·intro h;have:=congrArg List.reverse h;simpa using this
 ·intro h;rw [h]
theorem Y3 {a b c:Name} (h:gh b c=true):ry a b=ry a c:=by rw [Hn,Hn,yd.1 h]
theorem aoa {a b c:Name} (h:gh a b=true):ry a c=ry b c:=by rw [Hn,Hn,yd.1 h]
theorem asl {a b c:Name} (h1:ry a b<0) (h2:ry b c<0):ry a c<0:=by rw [Hn] at *;exact Zm _ _ _ h1 h2
theorem Lo (a b:Name):ry a b = - ry b a:=by rw [Hn,Hn];exact adu _ _
end Go.Proofs.YtjagjbceegbaiaaGreat
end
namespace Go.Vm
def l7 {α:Type} (lt : α -> α->Bool) (x : α):List α->List α
 | []=>[x]
 |y::l=>bif lt x y then x::y::l else y::l7 lt x l
def ec {α:Type} (lt : α -> α->Bool):List α->List α:=List.foldl (fun acc x=>l7 lt x acc) []
def fu {α:Type} (lt : α -> α->Bool):List α->List α->List α
 | [],r=>r
 |x::l,[]=>x::l
 |x::l,y::r=>bif lt y x then y::fu lt (x::l) r else x::fu lt l (y::r)
termination_by l r=>l.length+r.length
structure yw {α:Type} (lt : α -> α->Bool) (V : α->Prop):Prop where
 auq:∀ x y,V x->V y->lt x y=true->lt y x=false
 trans:∀ x y z,V x->V y->V z->lt y x=false->lt z y=false->lt z x=false
def ke {α:Type} (lt : α -> α->Bool) (l:List α):Prop:=l.Pairwise fun x y=>lt y x=false
theorem mb {α:Type} {lt : α -> α->Bool} (r:List α):fu lt [] r=r:=by rw [fu]
theorem k8 {α:Type} {lt : α -> α->Bool} (l:List α):fu lt l []=l:=by cases l<;>rw [fu]
theorem oj {α:Type} {lt : α -> α->Bool} (x y : α) (l r:List α):fu lt (x::l) (y::r)=bif lt y x then y::fu lt (x::l) r else x::fu lt l (y::r):=by rw [fu]
theorem aj0 {α:Type} {lt : α -> α->Bool} {x z : α}:∀ {l:List α},z ∈ l7 lt x l↔z=x\/z ∈ l
 | []=>by simp [l7]
 |y::l=>by
  rw [l7];cases lt x y with
  |true=>simp
  |false=>simp only [cond_false,zyb,aj0 (l:=l)];constructor<;>(rintro (h|h|h)<;>simp [h])
theorem afr {α:Type} {lt : α -> α->Bool} {x : α}:∀ {l:List α},(l7 lt x l).Perm (x::l)
 | []=>.refl _
 |y::l=>by
  rw [l7];cases lt x y with
  |true=>exact .refl _
  |false=>exact (List.Perm.cons y (afr (l:=l))).trans (List.Perm.swap x y l)
theorem aeg {α:Type} {lt : α -> α->Bool}:ec lt []=[]:=rfl
theorem wb {α:Type} {lt : α -> α->Bool} (l:List α) (x : α):ec lt (l++[x])=l7 lt x (ec lt l):=by simp [ec,List.foldl_append]
theorem Wy {α:Type} {p:List α->Prop} (l:List α) (h0:p []) (h1:∀ l x,p l->p (l++[x])):p l:=by
 have key:∀ r:List α,p r.reverse:=fun r=>by
  induction r with
  |nil=>exact h0
  |cons a r ih=>rw [List.reverse_cons];exact h1 _ _ ih
 rw [<- List.reverse_reverse l];exact key _
theorem Ip {α:Type} {lt : α -> α->Bool} (l:List α):(ec lt l).Perm l:=by
 refine Wy (p:=fun l=>(ec lt l).Perm l) l (.refl _) fun l x ih=>?_
 rw [wb];exact afr.trans ((List.Perm.cons x ih).trans (List.perm_append_singleton x l).symm)
theorem lx {α:Type} {lt : α -> α->Bool} {l:List α} {z : α}:z ∈ ec lt l↔z ∈ l:=(Ip l).mem_iff
theorem fl {α:Type} {lt : α -> α->Bool} (l:List α):(ec lt l).length=l.length:=(Ip l).length_eq
theorem Mf {α:Type} {lt : α -> α->Bool}:∀ (l r:List α),(fu lt l r).Perm (l++r)
 | [],r=>by rw [mb];exact .refl _
 |x::l,[]=>by rw [k8,zzn]
 |x::l,y::r=>by
  rw [oj];cases lt y x with
  |true=>exact (List.Perm.cons y (Mf (x::l) r)).trans (List.perm_middle (l₁:=x::l)).symm
  |false=>exact List.Perm.cons x (Mf l (y::r))
termination_by l r=>l.length+r.length
theorem Z5 {α:Type} {lt : α -> α->Bool} (l r:List α):(fu lt l r).length=l.length+r.length:=by rw [(Mf l r).length_eq,za]
theorem yw.le_of_lt {α:Type} {lt : α -> α->Bool} {V : α->Prop} (O:yw lt V) {x y z : α} (hx:V x) (hy:V y) (hz:V z) (h:lt x y=true) (k:lt z y=false):lt z x=false:=O.trans x y z hx hy hz (O.auq x y hx hy h) k
theorem Zw {α:Type} {lt : α -> α->Bool} {V : α->Prop} (O:yw lt V) {x : α} (hx:V x):∀ {l:List α},(∀ y ∈ l,V y)->ke lt l->ke lt (l7 lt x l)
 | [],_,_=>by simp [l7,ke]
 |y::l,hV,h=>by
  have h1:=List.pairwise_cons.1 h;have hy:=hV y List.mem_cons_self;have hl:∀ z ∈ l,V z:=fun z hz=>hV z (zyn _ hz)
  rw [l7];cases e:lt x y with
  |true=>
   rw [cond_true];refine List.pairwise_cons.2 ⟨fun z hz=>?_,h⟩;rcases zyb.1 hz with rfl|hz
   ·exact O.auq _ _ hx hy e
   ·exact O.le_of_lt hx hy (hl z hz) e (h1.1 z hz)
  |false=>
   rw [cond_false];refine List.pairwise_cons.2 ⟨fun z hz=>?_,Zw O hx hl h1.2⟩;rcases aj0.1 hz with rfl|hz
   ·exact e
   ·exact h1.1 z hz
theorem om {α:Type} {lt : α -> α->Bool} {V : α->Prop} (O:yw lt V) (l:List α) (hV:∀ y ∈ l,V y):ke lt (ec lt l):=by
 revert hV
 refine Wy (p:=fun l=>(∀ y ∈ l,V y)->ke lt (ec lt l)) l (fun _=>List.Pairwise.nil) fun l x ih hV=>?_
 rw [wb];exact Zw O (hV x (by simp)) (fun y hy=>hV y (by simp [lx.1 hy])) (ih fun y hy=>hV y (by simp [hy]))
theorem Kl {α:Type} {lt : α -> α->Bool} {V : α->Prop} (O:yw lt V) {x : α} (hx:V x):∀ (a b:List α),(∀ y ∈ a,V y)->(∀ y ∈ b,V y)->fu lt a (l7 lt x b)=l7 lt x (fu lt a b)
 | [],b,_,_=>by rw [mb,mb]
 |a::s,[],ha,hb=>by
  have ih:=Kl O hx s [] (fun y hy=>ha y (zyn _ hy)) hb;rw [k8] at ih ⊢;rw [l7,oj,l7];cases lt x a with
  |true=>rw [cond_true,cond_true,k8]
  |false=>rw [cond_false,cond_false];rw [l7] at ih;rw [ih]
 |a::s,b::r,ha,hb=>by
  have va:=ha a List.mem_cons_self;have vb:=hb b List.mem_cons_self;have kD:=Kl O hx s (b::r) (fun y hy=>ha y (zyn _ hy)) hb;have kC:=Kl O hx (a::s) r ha (fun y hy=>hb y (zyn _ hy));rw [oj];rw [l7] at kD ⊢;cases e1:lt x b with
  |true=>
   rw [e1,cond_true] at kD;rw [cond_true,oj];cases e2:lt b a with
   |true=>
    have e3:lt x a=true:=by
     cases e3:lt x a with
     |true=>rfl
     |false=>
      have:=O.trans a x b va hx vb e3 (O.auq _ _ hx vb e1);rw [e2] at this;cases this
    rw [e3,cond_true,cond_true,l7,e1,cond_true,oj,e2,cond_true]
   |false=>
    rw [cond_false,l7];cases e3:lt x a with
    |true=>rw [cond_true,cond_true,oj,e2,cond_false]
    |false=>rw [cond_false,cond_false,kD]
  |false=>
   rw [e1,cond_false] at kD;rw [cond_false,oj];cases e2:lt b a with
   |true=>rw [cond_true,cond_true,l7,e1,cond_false,kC]
   |false=>
    have e3:=O.trans a b x va vb hx e2 e1;rw [cond_false,cond_false,l7,e3,cond_false,kD]
termination_by a b=>a.length+b.length
theorem Iu {α:Type} {lt : α -> α->Bool} {V : α->Prop} (O:yw lt V) (a b:List α) (ha:∀ y ∈ a,V y) (hb:∀ y ∈ b,V y):fu lt (ec lt a) (ec lt b)=ec lt (a++b):=by
 revert hb
 refine Wy (p:=fun b=>(∀ y ∈ b,V y)->fu lt (ec lt a) (ec lt b)=ec lt (a++b)) b (fun _=>by rw [aeg,k8,zzn]) fun b x ih hb=>?_
 rw [wb,<- zzc,wb,Kl O (hb x (by simp)) _ _ (fun y hy=>ha y (lx.1 hy)) (fun y hy=>hb y (by simp [lx.1 hy])),ih fun y hy=>hb y (by simp [hy])]
theorem J3 {α:Type} {lt : α -> α->Bool} {x : α}:∀ (A B:List α),(∀ y ∈ A,lt x y=false)->(∀ y ∈ B.head?,lt x y=true)->l7 lt x (A++B)=A++x::B
 | [],[],_,_=>rfl
 | [],b::B,_,h=>by rw [List.nil_append,l7,h b rfl];rfl
 |a::A,B,h,h2=>by rw [List.cons_append,l7,h a List.mem_cons_self,cond_false,J3 A B (fun y hy=>h y (zyn _ hy)) h2];rfl
theorem sy {α:Type} {lt : α -> α->Bool}:∀ (A B C D:List α),(∀ x ∈ A,∀ y ∈ D,lt y x=false)->(∀ x ∈ B,∀ y ∈ C,lt y x=true)->fu lt (A++B) (C++D)=fu lt A C++fu lt B D
 | [],B,[],D,_,_=>by rw [mb];rfl
 | [],[],c::C,D,_,_=>by rw [zzn,mb,mb,mb]
 | [],b::B,c::C,D,h1,h2=>by have ih:=sy [] (b::B) C D (by simp) (fun x hx y hy=>h2 x hx y (zyn _ hy));rw [List.nil_append,List.cons_append,oj,h2 b List.mem_cons_self c List.mem_cons_self,cond_true,mb];rw [List.nil_append,mb] at ih;rw [ih];rfl
 |a::A,B,[],[],_,_=>by rw [zzn,k8,k8,k8]
 |a::A,B,[],d::D,h1,h2=>by have ih:=sy A B [] (d::D) (fun x hx=>h1 x (zyn _ hx)) (by simp);rw [List.nil_append,k8] at ih ⊢;rw [List.cons_append,oj,h1 a List.mem_cons_self d List.mem_cons_self,cond_false,ih];rfl
 |a::A,B,c::C,D,h1,h2=>by
  have kD:=sy A B (c::C) D (fun x hx=>h1 x (zyn _ hx)) h2;have kC:=sy (a::A) B C D h1 (fun x hx y hy=>h2 x hx y (zyn _ hy));rw [List.cons_append,List.cons_append,oj,oj];cases lt c a with
  |true=>rw [cond_true,cond_true];rw [List.cons_append] at kC;rw [kC];rfl
  |false=>rw [cond_false,cond_false];rw [List.cons_append] at kD;rw [kD];rfl
termination_by A _ C _=>A.length+C.length
theorem Rj {α:Type} {lt : α -> α->Bool} {V : α->Prop} (O:yw lt V) {A:List α} {x y : α} {D:List α} (hA:∀ z ∈ A++[x],V z) (hD:∀ z ∈ y::D,V z) (h1:ke lt (A++[x])) (h2:ke lt (y::D)) (h:lt y x=false):∀ a ∈ A++[x],∀ d ∈ y::D,lt d a=false:=by
 have k1:=List.pairwise_append.1 h1;have k2:=List.pairwise_cons.1 h2;intro a ha d hd;have vx:=hA x (by simp);have vy:=hD y (by simp);have e1:lt y a=false:=by
  rcases zzq.1 ha with q|q
  ·exact O.trans a x y (hA a ha) vx vy (k1.2.2 a q x (by simp)) h
  ·simp at q;subst q;exact h
 rcases zyb.1 hd with rfl|q
 ·exact e1
 ·exact O.trans a y d (hA a ha) vy (hD d hd) e1 (k2.1 d q)
theorem O4 {α:Type} {lt : α -> α->Bool} {V : α->Prop} (O:yw lt V) {B:List α} {x y : α} {C:List α} (hB:∀ z ∈ x::B,V z) (hC:∀ z ∈ C++[y],V z) (h1:ke lt (x::B)) (h2:ke lt (C++[y])) (h:lt y x=true):∀ b ∈ x::B,∀ c ∈ C++[y],lt c b=true:=by
 have k1:=List.pairwise_cons.1 h1;have k2:=List.pairwise_append.1 h2;intro b hb c hc;have vx:=hB x (by simp);have vy:=hC y (by simp);cases e:lt c b with
 |true=>rfl
 |false=>
  have e1:lt y b=false:=by
   rcases zzq.1 hc with q|q
   ·exact O.trans b c y (hB b hb) (hC c hc) vy e (k2.2.2 c q y (by simp))
   ·simp at q;subst q;exact e
  have e2:lt y x=false:=by
   rcases zyb.1 hb with rfl|q
   ·exact e1
   ·exact O.trans x b y vx (hB b hb) vy (k1.1 b q) e1
  rw [h] at e2;cases e2
def ju {α:Type} (lt : α -> α->Bool) (k:Nat) (l:List α):List α:=
 if h:l.length<=k\/k=0 then ec lt l else ec lt (l.take k)++ju lt k (l.drop k)
termination_by l.length
decreasing_by simp at *;omega
theorem tl {α:Type} {lt : α -> α->Bool} {k:Nat} {l:List α} (h:l.length<=k):ju lt k l=ec lt l:=by rw [ju,dif_pos (.inl h)]
theorem E4 {α:Type} {lt : α -> α->Bool} {k:Nat} {l:List α} (hk : 0<k) (h:k<=l.length):ju lt k l=ec lt (l.take k)++ju lt k (l.drop k):=by
 by_cases e:l.length<=k
 ·have h1:l.take k=l:=zzp e;have h2:l.drop k=[]:=zzx e;rw [h1,h2,tl e,tl (zzb _),aeg,zzn]
 ·rw [ju,dif_neg zO]
theorem apy {α:Type} {lt : α -> α->Bool} {k:Nat} {l:List α} (hk : 0<k) (h:k+k<=l.length):ju lt k l=ec lt (l.take k)++(ec lt ((l.drop k).take k)++ju lt k (l.drop (k+k))):=by rw [E4 hk zO,E4 (l:=l.drop k) hk (by rw [zzt];omega),List.drop_drop]
theorem akx {α:Type} {lt : α -> α->Bool} {k:Nat} {l:List α} (hk : 0<k) (h:k<l.length) (h2:l.length<=k+k):ju lt k l=ec lt (l.take k)++ec lt (l.drop k):=by rw [E4 hk zO,tl (l:=l.drop k) (by rw [zzt];omega)]
theorem am5 {α:Type} {k:Nat} (l:List α):l.take k++(l.drop k).take k=l.take (k+k):=by rw [List.take_add]
theorem aL9 {α:Type} {lt : α -> α->Bool} {k:Nat} {z : α} (hk : 0<k) (n:Nat):∀ l:List α,l.length<=n->(z ∈ ju lt k l↔z ∈ l):=by
 induction n with
 |zero=>intro l h;rw [tl zO,lx]
 |succ n ih=>
  intro l h;by_cases e:l.length<=k
  ·rw [tl e,lx]
  ·rw [E4 hk zO,zzq,lx,ih _ (by rw [zzt];omega),<- zzq,zzm]
theorem arw {α:Type} {lt : α -> α->Bool} {k:Nat} (hk : 0<k) (n:Nat):∀ l:List α,l.length<=n->(ju lt k l).length=l.length:=by
 induction n with
 |zero=>intro l h;rw [tl zO,fl]
 |succ n ih=>
  intro l h;by_cases e:l.length<=k
  ·rw [tl e,fl]
  ·rw [E4 hk zO,za,fl,ih _ (by rw [zzt];omega),<- za,zzm]
theorem au3 {α:Type} {lt : α -> α->Bool} {V : α->Prop} (O:yw lt V) {A:List α} {x y : α} (hA:∀ z ∈ A++[x],V z) (hy:V y) (h:ke lt (A++[x])) (e:lt y x=false):∀ a ∈ A++[x],lt y a=false:=
 fun a ha=>Rj O (D:=[]) hA (by simpa using hy) h (by simp [ke]) e a ha y (by simp)
theorem jg {α:Type} {l:List α} {i:Nat} {c : α} (h:l[i]? = some c):l.take (i+1)=l.take i++[c]:=by rw [List.take_add_one,h];rfl
theorem qj {α:Type} {l:List α} {i:Nat} {c : α} (h:l[i]? = some c):l.drop i=c::l.drop (i+1):=by obtain ⟨_,rfl⟩:=zg.1 h;exact zzs _
theorem ke.take {α:Type} {lt : α -> α->Bool} {l:List α} (h:ke lt l) (i:Nat):ke lt (l.take i):=List.Pairwise.sublist (List.take_sublist i l) h
theorem ke.drop {α:Type} {lt : α -> α->Bool} {l:List α} (h:ke lt l) (i:Nat):ke lt (l.drop i):=List.Pairwise.sublist (List.drop_sublist i l) h
theorem Le {α:Type} {lt : α -> α->Bool} {V : α->Prop} (O:yw lt V) {l:List α} (hl:∀ z ∈ l,V z) (h:ke lt l) {y : α} (hy:V y) {i:Nat} (hi:i<=l.length) (e:∀ c,0<i->l[i - 1]? = some c->lt y c=false):∀ a ∈ l.take i,lt y a=false:=by
 cases i with
 |zero=>intro a ha;simp at ha
 |succ i=>
  have hc:l[i]? = some l[i]:=zh zO;have h1:=jg hc;intro a ha;rw [h1] at ha;exact au3 O (fun z hz=>hl z (zzr (i:=i+1) (by rw [h1];exact hz))) hy (by rw [<- h1];exact h.take _) (e _ zO hc) a ha
theorem afd {α:Type} {lt : α -> α->Bool} {V : α->Prop} (O:yw lt V) {l:List α} (hl:∀ z ∈ l,V z) (h:ke lt l) {y : α} (hy:V y) {i:Nat} (e:∀ c,l[i]? = some c->lt y c=true):∀ a ∈ l.drop i,lt y a=true:=by
 intro a ha;by_cases hi:i<l.length
 ·have hc:l[i]? = some l[i]:=zh hi;have h1:=qj hc;rw [h1] at ha;exact O4 O (C:=[]) (y:=y) (x:=l[i]) (B:=l.drop (i+1)) (fun z hz=>hl z (zz8 (i:=i) (by rw [h1];exact hz))) (by simpa using hy) (by rw [<- h1];exact h.drop _) (by simp [ke]) (e _ hc) a ha y (by simp)
 ·rw [zzx zO] at ha;cases ha
theorem ad4 {α:Type} {lt : α -> α->Bool} {V : α->Prop} (O:yw lt V) {l:List α} (hl:∀ z ∈ l,V z) (h:ke lt l) {x : α} (hx:V x) {i:Nat} (hi:i<=l.length) (e:∀ c,0<i->l[i - 1]? = some c->lt c x=true):∀ a ∈ l.take i,lt a x=true:=by
 cases i with
 |zero=>intro a ha;simp at ha
 |succ i=>
  have hc:l[i]? = some l[i]:=zh zO;have h1:=jg hc;intro a ha;rw [h1] at ha;exact O4 O (B:=[]) (x:=x) (C:=l.take i) (y:=l[i]) (by simpa using hx) (fun z hz=>hl z (zzr (i:=i+1) (by rw [h1];exact hz))) (by simp [ke]) (by rw [<- h1];exact h.take _) (e _ zO hc) x (by simp) a ha
theorem afe {α:Type} {lt : α -> α->Bool} {x : α} {l:List α} {i:Nat} (h1:∀ a ∈ l.take i,lt a x=true) (h2:∀ c,l[i]? = some c->lt c x=false):fu lt [x] l=l.take i++x::l.drop i:=by
 have:=sy (lt:=lt) [] [x] (l.take i) (l.drop i) (by simp) (fun z hz y hy=>by simp at hz;subst hz;exact h1 y hy);rw [zzm,List.nil_append,mb] at this;rw [this]
 congr 1
 cases hd:l.drop i with
 |nil=>rw [k8]
 |cons c r=>
  have hc:l[i]? = some c:=by rw [<- List.head?_drop,hd];rfl
  rw [oj,h2 c hc,cond_false,mb]
theorem Ys {α:Type} {lt : α -> α->Bool} {y : α} {l:List α} {i:Nat} (h1:∀ a ∈ l.take i,lt y a=false) (h2:∀ a ∈ l.drop i,lt y a=true):fu lt l [y]=l.take i++y::l.drop i:=by have:=sy (lt:=lt) (l.take i) (l.drop i) [y] [] (by simp) (fun z hz u hu=>by simp at hu;subst hu;exact h2 z hz);rw [zzm,zzn,k8] at this;rw [this];have h3:=sy (lt:=lt) (l.take i) [] [] [y] (fun z hz u hu=>by simp at hu;subst hu;exact h1 z hz) (by simp);rw [zzn,List.nil_append,k8,mb] at h3;rw [h3,zzc];rfl
end Go.Vm
section
namespace Go.Proofs.YtjagjbceegbaiaaGreat
open Go.Vm
theorem ahw (s:ByteArray):wl PP [] 0 (Tryz.f133.body.getD .skip) (di PP Tryz.f133.results.toList (fun r st=>(r1 (bh .i64)).get true st.h r=some (jw s))) (cj 0 [ah.val false s]) (ay []):=by
 unfold Tryz.f133;simp only [↓wR,zT,simprocAttr];unfold jw;rw [az];refine ⟨fun h=>?_,fun h=>?_⟩
 ·rw [if_pos (.inl zO)];simp only [↓wR,zT,simprocAttr,h]
 ·simp only [↓wR,zT,simprocAttr,h];rw [az];refine ⟨fun h2=>?_,fun h2=>?_⟩
  ·rw [if_pos (.inr zO)];simp only [↓wR,zT,simprocAttr,h2]
  ·rw [if_neg zO];simp only [↓wR,zT,simprocAttr,h2]
noncomputable def Ik (x:ByteArray × Unit):Option AV:=some ((r1 (bh .i64)).E true (jw x.1))
theorem abi (x:ByteArray × Unit) (r:AV) (h:Ik x=some r):bo PP 133 ((aC ah a0).E x) r:=by cases h;exact bf (ak.nil PP) Tryz.func133 zK zK zK zL (r1 (bh .i64)) true (jw x.1) (ahw x.1)
noncomputable abbrev av6:zE:=(133,true,dg (aC ah a0) Ik)
theorem aIl {c:UInt8} (h1:(65:Int)<=c.toNat) (h2:(c.toNat:Int)<=90):IntKind.u8.wrap ((c.toNat:Int)+32)=((low c).toNat:Int):=by
 have a1 : 65<=c:=by rw [UInt8.le_iff_toNat_le];simp;omega
 have a2:c<=90:=by rw [UInt8.le_iff_toNat_le];simp;omega
 have bJ:low c=c+32:=by simp [low,a1,a2]
 rw [bJ];simp [IntKind.wrap,IntKind.bits,IntKind.signed,UInt8.toNat_add]
theorem axd {c:UInt8} (h:¬ ((65:Int)<=c.toNat/\(c.toNat:Int)<=90)):low c=c:=by
 have:¬ (65<=c/\c<=90):=fun q=>h ⟨by have:=UInt8.le_iff_toNat_le.1 q.1;simp at this;omega,by have:=UInt8.le_iff_toNat_le.1 q.2;simp at this;omega⟩
 simp [low,this]
theorem apx (s:ByteArray) (hs:s.size<=16777216):wl PP [] 0 (Tryz.f202.body.getD .skip) (di PP Tryz.f202.results.toList (fun r st=>(r1 ah).get true st.h r=some (fold s))) (cj 0 [ah.val false s]) (ay []):=by
 have hl:s.data.toList.length=s.size:=by simp
 obtain ⟨F,hF⟩:∃ F,F=s.data.toList.map low:=⟨_,rfl⟩;have BN:F.length=s.size:=by rw [hF,zzo,hl]
 have gA:fold s=⟨F.toArray⟩:=by unfold fold;rw [hF]
 rw [gA];unfold Tryz.f202;simp only [↓wR,zT,simprocAttr];refine i9 [0,4,3] (fun (i:Nat)=>[.sc (.string s),zi i,.sl 0 0 i 1]) (fun i=>[some (.row ((F.take i).map (bt.val false)) 0 0 5)]) (fun i=>i<=s.size) (fun i=>s.size - i) 0 (zzb _) zX ?_;intro i hi;simp only [↓wR,zT,simprocAttr];rw [az];refine ⟨fun h=>?_,fun h=>?_⟩
 ·have hlt:i<s.size:=zO;obtain ⟨c,hc⟩:∃ c,s.data.toList[i]? = some c:=⟨_,zh zO⟩;have AG:F[i]? = some (low c):=by rw [hF,zzj,hc];rfl
  have bN:=jg AG;have aY:(F.take i).length=i:=by rw [zzl];omega
  have aD:i+1<=140737488355328:=zO
  repeat (first|simp only [↓wR,zT,simprocAttr,h,hc]|simp (disch:=omega) only [zW])
  by_cases h1:(65:Int)<=c.toNat
  ·by_cases h2:(c.toNat:Int)<=90
   ·have d1:decide ((c.toNat:Int) ≥ 65)=true:=zp h1;have d2:decide ((c.toNat:Int)<=90)=true:=zp h2;have hw:=aIl h1 h2
    repeat (first|simp only [↓wR,zT,simprocAttr,d1,d2,hw,aY,aD]|simp (disch:=omega) only [zW])
    refine ⟨i+1,hlt,zO,zF,?_⟩;rw [bN,zzw];rfl
   ·have d1:decide ((c.toNat:Int) ≥ 65)=true:=zp h1;have d2:decide ((c.toNat:Int)<=90)=false:=zq h2;have hw:low c=c:=axd (fun q=>h2 q.2)
    repeat (first|simp only [↓wR,zT,simprocAttr,d1,d2,aY,aD]|simp (disch:=omega) only [zW])
    refine ⟨i+1,hlt,zO,zF,?_⟩;rw [bN,zzw,hw];rfl
  ·have d1:decide ((c.toNat:Int) ≥ 65)=false:=zq h1;have hw:low c=c:=axd (fun q=>h1 q.1)
   repeat (first|simp only [↓wR,zT,simprocAttr,d1,aY,aD]|simp (disch:=omega) only [zW])
   refine ⟨i+1,hlt,zO,zF,?_⟩;rw [bN,zzw,hw];rfl
 ·have hin:F.take i=F:=zzp zO;have tK:i=F.length:=zO;rw [hin,tK];simp only [↓wR,zT,simprocAttr,h]
noncomputable def Bg (x:ByteArray × Unit):Option AV:=if x.1.size<=16777216 then some ((r1 ah).E true (fold x.1)) else none
theorem Qi (x:ByteArray × Unit) (r:AV) (h:Bg x=some r):bo PP 202 ((aC ah a0).E x) r:=by obtain ⟨hc,rfl⟩:=zI h;exact bf (ak.nil PP) Tryz.func202 zK zK zK zL (r1 ah) true (fold x.1) (apx x.1 hc)
noncomputable abbrev aje:zE:=(202,true,dg (aC ah a0) Bg)
theorem arc {A B:List UInt8} {i:Nat} (h:i=A.length\/i=B.length) (ha:i<=A.length) (hb:i<=B.length):Lib.compareBytes (A.drop i) (B.drop i)=if A.length<B.length then -1 else if A.length > B.length then 1 else 0:=by
 rcases Nat.lt_trichotomy A.length B.length with q|q|q
 ·have h1:A.drop i=[]:=zzx zO;rw [h1,if_pos q];cases h2:B.drop i with
  |nil=>have:=List.drop_eq_nil_iff.1 h2;omega
  |cons y r=>rfl
 ·have h1:A.drop i=[]:=zzx zO;have h2:B.drop i=[]:=zzx zO;rw [h1,h2,if_neg zO,if_neg zO];rfl
 ·have h1:B.drop i=[]:=zzx zO;rw [h1,if_neg zO,if_pos q];cases h2:A.drop i with
  |nil=>have:=List.drop_eq_nil_iff.1 h2;omega
  |cons y r=>rfl
theorem ab5 (a b:ByteArray) (ha:a.size<=16777216) (hb:b.size<=16777216):wl PP [aje] 0 (Tryz.f178.body.getD .skip) (di PP Tryz.f178.results.toList (fun r st=>(r1 (bh .i64)).get true st.h r=some (An (fold a) (fold b)))) (cj 0 [ah.val false a,ah.val false b]) (ay []):=by
 have hq:∀ a b c d,eh a b c=d->eh a b c=d:=fun _ _ _ _ h=>h
 obtain ⟨A,hA⟩:∃ A,A=fold a:=⟨_,rfl⟩;obtain ⟨B,hB⟩:∃ B,B=fold b:=⟨_,rfl⟩;have mD:A.data.toList.length=A.size:=by simp
 have fC:B.data.toList.length=B.size:=by simp
 have sa:A.size<=16777216:=by rw [hA,C8];exact ha
 have sb:B.size<=16777216:=by rw [hB,C8];exact hb
 rw [<- hA,<- hB];unfold An;unfold Tryz.f178;simp only [↓wR,zT,simprocAttr,Bg,ha,hb,<- hA,<- hB];refine da [5,6,7] (fun (i:Nat)=>[.sc (.string A),.sc (.string B),zi i]) (fun _=>[]) (fun i=>i<=A.size/\i<=B.size/\Lib.compareBytes A.data.toList B.data.toList=Lib.compareBytes (A.data.toList.drop i) (B.data.toList.drop i)) (fun i=>A.size - i) 0 ⟨zzb _,zzb _,rfl⟩ zS zS ?_;rintro i ⟨hi,hj,hv⟩;simp only [↓wR,zT,simprocAttr];rw [az];refine ⟨fun h1=>?_,fun h1=>?_⟩
 ·simp only [↓wR,zT,simprocAttr,h1];rw [az];refine ⟨fun h2=>?_,fun h2=>?_⟩
  ·obtain ⟨x,hx⟩:∃ x,A.data.toList[i]? = some x:=⟨_,zh zO⟩;obtain ⟨y,hy⟩:∃ y,B.data.toList[i]? = some y:=⟨_,zh zO⟩;have uA:A.data.toList.drop i=x::A.data.toList.drop (i+1):=by
    obtain ⟨k,rfl⟩:=zg.1 hx;exact zzs k
   have AX:B.data.toList.drop i=y::B.data.toList.drop (i+1):=by obtain ⟨k,rfl⟩:=zg.1 hy;exact zzs k
   rw [uA,AX,Lib.compareBytes] at hv;simp only [UInt8.lt_iff_toNat_lt] at hv;simp only [↓wR,zT,simprocAttr,h2];refine ⟨zK,.inl ?_⟩;simp only [↓wR,zT,simprocAttr,hx,hy];refine ⟨by apply hq;kernel_rfl,?_⟩;rw [az];refine ⟨fun h3=>?_,fun h3=>?_⟩
   ·rw [if_pos zO] at hv;simp only [↓wR,zT,simprocAttr,h3,hv]
   ·rw [if_neg zO] at hv;simp only [↓wR,zT,simprocAttr,h3];refine ⟨zK,.inl ?_⟩;simp only [↓wR,zT,simprocAttr,hx,hy];refine ⟨by apply hq;kernel_rfl,?_⟩;rw [az];refine ⟨fun h4=>?_,fun h4=>?_⟩
    ·rw [if_pos zO] at hv;simp only [↓wR,zT,simprocAttr,h4,hv]
    ·rw [if_neg zO] at hv
     repeat (first|simp only [↓wR,zT,simprocAttr,h4]|simp (disch:=omega) only [zW])
     exact ⟨i+1,⟨zO,zO,hv⟩,zO,zF⟩
  ·have he:=arc (A:=A.data.toList) (B:=B.data.toList) (i:=i) zO zO zO;rw [hv,he,mD,fC];simp only [↓wR,zT,simprocAttr,h2];rw [az];refine ⟨fun h5=>?_,fun h5=>?_⟩
   ·rw [if_pos zO];simp only [↓wR,zT,simprocAttr,h5]
   ·rw [if_neg zO];simp only [↓wR,zT,simprocAttr,h5];rw [az];refine ⟨fun h6=>?_,fun h6=>?_⟩
    ·rw [if_pos zO];simp only [↓wR,zT,simprocAttr,h6]
    ·rw [if_neg zO];simp only [↓wR,zT,simprocAttr,h6]
 ·have he:=arc (A:=A.data.toList) (B:=B.data.toList) (i:=i) zO zO zO;rw [hv,he,mD,fC];simp only [↓wR,zT,simprocAttr,h1];rw [az];refine ⟨fun h5=>?_,fun h5=>?_⟩
  ·rw [if_pos zO];simp only [↓wR,zT,simprocAttr,h5]
  ·rw [if_neg zO];simp only [↓wR,zT,simprocAttr,h5];rw [az];refine ⟨fun h6=>?_,fun h6=>?_⟩
   ·rw [if_pos zO];simp only [↓wR,zT,simprocAttr,h6]
   ·rw [if_neg zO];simp only [↓wR,zT,simprocAttr,h6]
noncomputable def vm (x:ByteArray × ByteArray × Unit):Option AV:=if x.1.size<=16777216/\x.2.1.size<=16777216 then some ((r1 (bh .i64)).E true (An (fold x.1) (fold x.2.1))) else none
theorem J9 (x:ByteArray × ByteArray × Unit) (r:AV) (h:vm x=some r):bo PP 178 ((aC ah (aC ah a0)).E x) r:=by obtain ⟨hc,rfl⟩:=zI h;exact bf (ak.cons (aq Qi) (ak.nil PP)) Tryz.func178 zK zK zK zL (r1 (bh .i64)) true (An (fold x.1) (fold x.2.1)) (ab5 x.1 x.2.1 hc.1 hc.2)
noncomputable abbrev Vp:zE:=(178,true,dg (aC ah (aC ah a0)) vm)
theorem aCn (n:Name) (hn:br n<17592186044416):wl PP [] 0 (Tryz.f134.body.getD .skip) (di PP Tryz.f134.results.toList (fun r st=>(r1 (bh .i64)).get true st.h r=some (br n:Int))) (cj 0 [au.val false n]) (ay []):=by
 unfold Tryz.f134;simp only [cr];simp only [↓wR,zT,simprocAttr];refine da [0,3,4] (fun (i:Nat)=>[zn n,zi (br (n.take i)),zi i]) (fun _=>[]) (fun i=>i<=n.length/\br (n.take i)<=br n/\i<br (n.take i)) (fun i=>n.length - i) 0 ⟨zzb _,(ku n 0).1,by simp [br]⟩ zS zS ?_;rintro i ⟨hi,hle,tO⟩;simp only [↓wR,zT,simprocAttr];rw [az];refine ⟨fun h=>?_,fun h=>?_⟩
 ·obtain ⟨c,hc,aH,hlt⟩:=fi (zp h);have bN:=H5 n i c hc;have tE:=(ku n (i+1)).1
  repeat (first|simp only [↓wR,zT,simprocAttr,h,hc]|simp (disch:=omega) only [zW])
  refine ⟨i+1,⟨hlt,tE,zO⟩,zO,?_⟩;rw [bN];exact zF
 ·have hin:n.take i=n:=zzp zO;rw [hin];simp only [↓wR,zT,simprocAttr,h]
noncomputable def F7 (x:Name × Unit):Option AV:=if br x.1<17592186044416 then some ((r1 (bh .i64)).E true ((br x.1:Int))) else none
theorem Vc (x:Name × Unit) (r:AV) (h:F7 x=some r):bo PP 134 ((aC au a0).E x) r:=by obtain ⟨hc,rfl⟩:=zI h;exact bf (ak.nil PP) Tryz.func134 zK zK zK zL (r1 (bh .i64)) true ((br x.1:Int)) (aCn x.1 hc)
noncomputable abbrev av4:zE:=(134,true,dg (aC au a0) F7)
theorem ayd (n:Name) (hn:br n<17592186044416):wl PP [av6,av4] 0 (Tryz.f84.body.getD .skip) (di PP Tryz.f84.results.toList (fun r st=>(r1 (bh .i64)).get true st.h r=some (cg n))) (cj 0 [au.val false n]) (ay []):=by
 have hlen:n.length<br n:=(ku n 0).2;unfold Tryz.f84;simp only [cr];simp only [↓wR,zT,simprocAttr];refine da [0,3] (fun (i:Nat)=>[zn n,zi i]) (fun _=>[]) (fun i=>i<=n.length/\u5 (n.take i)=false) (fun i=>n.length - i) 0 ⟨zzb _,rfl⟩ zS zS ?_;rintro i ⟨hi,hb⟩;simp only [↓wR,zT,simprocAttr];rw [az];refine ⟨fun h=>?_,fun h=>?_⟩
 ·obtain ⟨c,hc,aH,hlt⟩:=fi (zp h)
  repeat (first|simp only [↓wR,zT,simprocAttr,h,hc,Ik]|simp (disch:=omega) only [zW])
  rw [de];refine ⟨fun ⟨h2,e2⟩=>?_,fun ⟨h2,e2⟩=>?_⟩
  ·have dS:=Sb n i c hc e2;have hne:jw c=4:=by
    unfold jw at e2 ⊢
    split at e2
    ·rename_i q;rw [if_pos q]
    ·exact absurd rfl e2
   have hv:cg n=4:=by unfold cg;rw [if_pos dS]
   simp only [↓wR,zT,simprocAttr,h2,hv,hne]
  ·repeat (first|simp only [↓wR,zT,simprocAttr,h2]|simp (disch:=omega) only [zW])
   refine ⟨i+1,⟨hlt,?_⟩,zO,zF⟩;rw [Tc n i c hc,hb];simpa using e2
 ·have hin:n.take i=n:=zzp zO;rw [hin] at hb;simp only [↓wR,zT,simprocAttr,h,F7,hn];rw [az];refine ⟨fun h3=>?_,fun h3=>?_⟩
  ·have hv:cg n=5:=by unfold cg;rw [hb,if_neg (by simp),if_pos zO]
   simp only [↓wR,zT,simprocAttr,h3,hv]
  ·have hv:cg n=0:=by unfold cg;rw [hb,if_neg (by simp),if_neg zO]
   simp only [↓wR,zT,simprocAttr,h3,hv]
noncomputable def n9 (x:Name × Unit):Option AV:=if br x.1<17592186044416 then some ((r1 (bh .i64)).E true (cg x.1)) else none
theorem Cd (x:Name × Unit) (r:AV) (h:n9 x=some r):bo PP 84 ((aC au a0).E x) r:=by obtain ⟨hc,rfl⟩:=zI h;exact bf (ak.cons (aq abi) (ak.cons (aq Vc) (ak.nil PP))) Tryz.func84 zK zK zK zL (r1 (bh .i64)) true (cg x.1) (ayd x.1 hc)
noncomputable abbrev uc:zE:=(84,true,dg (aC au a0) n9)
theorem alf (l:List ByteArray):gw [] l=0:=by cases l<;>rfl
theorem avu (a b:Name) (ha:bj a) (hb:bj b):wl PP [Vp] 0 (Tryz.f135.body.getD .skip) (di PP Tryz.f135.results.toList (fun r st=>(r1 (bh .i64)).get true st.h r=some (common a b:Int))) (cj 0 [au.val false a,au.val false b]) (ay []):=by
 have hq:∀ a b c d,eh a b c=d->eh a b c=d:=fun _ _ _ _ h=>h
 have la:=ha.lt;have lb:=hb.lt;unfold Tryz.f135;simp only [cr];simp only [↓wR,zT,simprocAttr];refine da [0,1,5] (fun (x:Nat)=>[zn a,zn b,zi x]) (fun _=>[]) (fun x=>x<=a.length/\x<=b.length/\common a b=x+gw (a.reverse.drop x) (b.reverse.drop x)) (fun x=>a.length - x) 0 ⟨zzb _,zzb _,by simp [common]⟩ zS zS ?_;rintro x ⟨hx,hx2,hR⟩;simp only [↓wR,zT,simprocAttr];refine ⟨zK,.inl ?_⟩;rw [az];refine ⟨fun h1=>?_,fun h1=>?_⟩
 ·simp only [↓wR,zT,simprocAttr,h1];rw [az];refine ⟨fun h2=>?_,fun h2=>?_⟩
  ·obtain ⟨c,hc⟩:∃ c,a[a.length - 1 - x]? = some c:=⟨_,zh zO⟩;obtain ⟨d,hd⟩:∃ d,b[b.length - 1 - x]? = some d:=⟨_,zh zO⟩;have e1:((a.length:Int) - 1 - x).toNat=a.length - 1 - x:=zO;have e2:(0:Int)<=(a.length:Int) - 1 - x:=zO;have e4:((b.length:Int) - 1 - x).toNat=b.length - 1 - x:=zO;have e5:(0:Int)<=(b.length:Int) - 1 - x:=zO;rw [Pb zO hc,Pb zO hd,gw] at hR
   repeat (first|simp only [↓wR,zT,simprocAttr,h2,e1,e2,e4,e5,hc,hd,vm,ha.label c (zm hc),hb.label d (zm hd)]|simp (disch:=omega) only [zW])
   refine ⟨by apply hq;kernel_rfl,?_⟩;rw [cp];refine ⟨fun ⟨h3,e3⟩=>?_,fun ⟨h3,e3⟩=>?_⟩
   ·have h4:fold c=fold d:=ad3 e3;rw [if_pos h4] at hR
    repeat (first|simp only [↓wR,zT,simprocAttr,h3]|simp (disch:=omega) only [zW])
    exact ⟨x+1,⟨zO,zO,zO⟩,zO,zF⟩
   ·have h4:¬ fold c=fold d:=fun q=>e3 (by rw [q];unfold An;exact Us _)
    rw [if_neg h4] at hR
    repeat (first|simp only [↓wR,zT,simprocAttr,h3]|simp (disch:=omega) only [zW])
    rw [hR,Nat.add_zero]
  ·have h5:b.reverse.drop x=[]:=zzx (by simp;omega);rw [h5,Wm] at hR
   repeat (first|simp only [↓wR,zT,simprocAttr,h2]|simp (disch:=omega) only [zW])
   refine ⟨by apply hq;kernel_rfl,?_⟩;rw [hR,Nat.add_zero]
 ·have h5:a.reverse.drop x=[]:=zzx (by simp;omega);rw [h5,alf] at hR
  repeat (first|simp only [↓wR,zT,simprocAttr,h1]|simp (disch:=omega) only [zW])
  refine ⟨by apply hq;kernel_rfl,?_⟩;rw [hR,Nat.add_zero]
noncomputable def A7 (x:Name × Name × Unit):Option AV:=if bj x.1/\bj x.2.1 then some ((r1 (bh .i64)).E true ((common x.1 x.2.1:Int))) else none
theorem Ji (x:Name × Name × Unit) (r:AV) (h:A7 x=some r):bo PP 135 ((aC au (aC au a0)).E x) r:=by obtain ⟨hc,rfl⟩:=zI h;exact bf (ak.cons (aq J9) (ak.nil PP)) Tryz.func135 zK zK zK zL (r1 (bh .i64)) true ((common x.1 x.2.1:Int)) (avu x.1 x.2.1 hc.1 hc.2)
noncomputable abbrev acd:zE:=(135,true,dg (aC au (aC au a0)) A7)
theorem aww (n top:Name) (hn:bj n) (ht:bj top):wl PP [acd] 0 (Tryz.f85.body.getD .skip) (di PP Tryz.f85.results.toList (fun r st=>(r1 bq).get true st.h r=some (jm n top))) (cj 0 [au.val false n,au.val false top]) (ay []):=by
 unfold Tryz.f85;simp only [cr];simp only [↓wR,zT,simprocAttr,A7,hn,ht]
 congr 1
 unfold jm;have:=El n top;rw [zyc];simp [<- this];omega
noncomputable def Fk (x:Name × Name × Unit):Option AV:=if bj x.1/\bj x.2.1 then some ((r1 bq).E true (jm x.1 x.2.1)) else none
theorem Md (x:Name × Name × Unit) (r:AV) (h:Fk x=some r):bo PP 85 ((aC au (aC au a0)).E x) r:=by obtain ⟨hc,rfl⟩:=zI h;exact bf (ak.cons (aq Ji) (ak.nil PP)) Tryz.func85 zK zK zK zL (r1 bq) true (jm x.1 x.2.1) (aww x.1 x.2.1 hc.1 hc.2)
noncomputable abbrev sh:zE:=(85,true,dg (aC au (aC au a0)) Fk)
theorem aAr (n top:Name) (hn:bj n) (ht:bj top):wl PP [acd] 0 (Tryz.f137.body.getD .skip) (di PP Tryz.f137.results.toList (fun r st=>(r1 bq).get true st.h r=some (gh n top))) (cj 0 [au.val false n,au.val false top]) (ay []):=by
 unfold Tryz.f137;simp only [cr];simp only [↓wR,zT,simprocAttr,A7,hn,ht];rw [dv];refine ⟨fun h=>?_,fun h=>?_⟩
 ·have hl:n.length=top.length:=by simp at h;omega
  simp only [↓wR,zT,simprocAttr,h,A7,hn,ht]
  congr 1
  unfold gh;have:=Gz n top;rw [zyc];simp [<- this,hl];omega
 ·have hl:¬ n.length=top.length:=by simp at h;omega
  simp only [↓wR,zT,simprocAttr,h];have:=Gz n top;simp [gh,<- this,hl]
noncomputable def Bf (x:Name × Name × Unit):Option AV:=if bj x.1/\bj x.2.1 then some ((r1 bq).E true (gh x.1 x.2.1)) else none
theorem yk (x:Name × Name × Unit) (r:AV) (h:Bf x=some r):bo PP 137 ((aC au (aC au a0)).E x) r:=by obtain ⟨hc,rfl⟩:=zI h;exact bf (ak.cons (aq Ji) (ak.nil PP)) Tryz.func137 zK zK zK zL (r1 bq) true (gh x.1 x.2.1) (aAr x.1 x.2.1 hc.1 hc.2)
noncomputable abbrev sd:zE:=(137,true,dg (aC au (aC au a0)) Bf)
theorem apj (a b:Name) (ha:bj a) (hb:bj b):wl PP [acd,Vp] 0 (Tryz.f182.body.getD .skip) (di PP Tryz.f182.results.toList (fun r st=>(r1 (bh .i64)).get true st.h r=some (ry a b))) (cj 0 [au.val false a,au.val false b]) (ay []):=by
 unfold Tryz.f182;simp only [cr];simp only [↓wR,zT,simprocAttr,A7,ha,hb];have h1:=Dw a.reverse b.reverse;have h2:=Ir a.reverse b.reverse;rw [List.length_reverse] at h1 h2;change common a b<=a.length at h1;change common a b<=b.length at h2;obtain ⟨k,hk⟩:∃ k,common a b=k:=⟨_,rfl⟩;rw [hk] at h1 h2;unfold ry;rw [hk];rw [dv];refine ⟨fun h=>?_,fun h=>?_⟩
 ·simp only [↓wR,zT,simprocAttr,h];have hka:k=a.length:=by simp at h;omega
  rw [dv];refine ⟨fun h3=>?_,fun h3=>?_⟩
  ·have hkb:k=b.length:=by simp at h3;omega
   simp only [↓wR,zT,simprocAttr,h3];rw [if_pos ⟨hka,hkb⟩]
  ·have hkb:¬ k=b.length:=by simp at h3;omega
   simp only [↓wR,zT,simprocAttr,h3,h];rw [if_neg (fun e=>hkb e.2),if_pos hka]
 ·simp only [↓wR,zT,simprocAttr,h];have hka:¬ k=a.length:=by simp at h;omega
  rw [dv];refine ⟨fun h3=>?_,fun h3=>?_⟩
  ·have hkb:k=b.length:=by simp at h3;omega
   simp only [↓wR,zT,simprocAttr,h3];rw [if_neg (fun e=>hka e.1),if_neg hka,if_pos hkb]
  ·have hkb:¬ k=b.length:=by simp at h3;omega
   rw [if_neg (fun e=>hka e.1),if_neg hka,if_neg hkb];obtain ⟨x,hx⟩:∃ x,a[a.length - 1 - k]? = some x:=⟨_,zh zO⟩;obtain ⟨y,hy⟩:∃ y,b[b.length - 1 - k]? = some y:=⟨_,zh zO⟩;simp only [↓wR,zT,simprocAttr,h3];refine ⟨zK,.inl ?_⟩;have la:=ha.len;have lb:=hb.len;simp (disch:=omega) only [zW];have e1:(((a.length:Int) - 1) - k).toNat=a.length - 1 - k:=zO;have e2:(0:Int)<=((a.length:Int) - 1) - k:=zO;have e3:(((b.length:Int) - 1) - k).toNat=b.length - 1 - k:=zO;have e4:(0:Int)<=((b.length:Int) - 1) - k:=zO;simp only [↓wR,zT,simprocAttr,hx,e1,e2];simp (disch:=omega) only [zW];simp only [↓wR,zT,simprocAttr,hy,e3,e4,vm,ha.label x (zm hx),hb.label y (zm hy)];exact ⟨zK,by simp [ahh,hx,hy]⟩
noncomputable def Dp (x:Name × Name × Unit):Option AV:=if bj x.1/\bj x.2.1 then some ((r1 (bh .i64)).E true (ry x.1 x.2.1)) else none
theorem Pt (x:Name × Name × Unit) (r:AV) (h:Dp x=some r):bo PP 182 ((aC au (aC au a0)).E x) r:=by obtain ⟨hc,rfl⟩:=zI h;exact bf (ak.cons (aq Ji) (ak.cons (aq J9) (ak.nil PP))) Tryz.func182 zK zK zK zL (r1 (bh .i64)) true (ry x.1 x.2.1) (apj x.1 x.2.1 hc.1 hc.2)
noncomputable abbrev ajd:zE:=(182,true,dg (aC au (aC au a0)) Dp)
noncomputable def ru:er Shape:=Em (mi (bh .i64) (mi (bh .i64) (mi (bh .i64) (mi (bh .i64) (bh .i64))))) (fun s=>(s.names,s.nums,s.texts,s.raw,s.size)) (fun p=>⟨p.1,p.2.1,p.2.2.2.2,p.2.2.1,p.2.2.2.1⟩) (fun _=>rfl) (fun _=>rfl)
theorem z9 (l:Bool) (s:Shape):ru.val l s = .agg [.sc (.int .i64 s.names),.sc (.int .i64 s.nums),.sc (.int .i64 s.texts),.sc (.int .i64 s.raw),.sc (.int .i64 s.size)]:=id rfl
theorem ka (fr h) (a b c d e:Int):ru.j9 fr h (.agg [.sc (.int .i64 a),.sc (.int .i64 b),.sc (.int .i64 c),.sc (.int .i64 d),.sc (.int .i64 e)])=some ⟨a,b,e,c,d⟩:=aIn ru fr h ⟨a,b,e,c,d⟩
theorem aJp (t:UInt16):wl PP [] 0 (Tryz.f171.body.getD .skip) (di PP Tryz.f171.results.toList (fun r st=>(r2 ru bq).get true st.h r=some (du t,!qq t))) (cj 0 [ct.val false t]) (ay []):=by
 have hk:∀ n:Int,(t.toNat:Int)=n->n≠0->¬ (128<=n/\n<=255)->qq t=false:=by intro n h1 h2 h3;unfold qq;rw [h1];simp only [Bool.or_eq_false_iff,beq_eq_false_iff_ne,ne_eq,Bool.and_eq_false_iff,decide_eq_false_iff_not];exact ⟨h2,zO⟩
 unfold Tryz.f171;unfold du;simp only [↓wR,zT,simprocAttr];rw [cp];refine ⟨fun ⟨h0,e0⟩=>?_,fun ⟨h0,e0⟩=>?_⟩
 ·simp only [↓wR,zT,simprocAttr,h0,ka,hk _ e0 (by decide) (by decide)];rw [if_pos e0]
 rw [if_neg e0];simp only [↓wR,zT,simprocAttr,h0];rw [cp];refine ⟨fun ⟨h1,e1⟩=>?_,fun ⟨h1,e1⟩=>?_⟩
 ·simp only [↓wR,zT,simprocAttr,h1,ka,hk _ e1 (by decide) (by decide)];rw [if_pos e1]
 rw [if_neg e1];simp only [↓wR,zT,simprocAttr,h1];rw [cp];refine ⟨fun ⟨h2,e2⟩=>?_,fun ⟨h2,e2⟩=>?_⟩
 ·simp only [↓wR,zT,simprocAttr,h2,ka,hk _ e2 (by decide) (by decide)];rw [if_pos e2]
 rw [if_neg e2];simp only [↓wR,zT,simprocAttr,h2];rw [cp];refine ⟨fun ⟨h3,e3⟩=>?_,fun ⟨h3,e3⟩=>?_⟩
 ·simp only [↓wR,zT,simprocAttr,h3,ka,hk _ e3 (by decide) (by decide)];rw [if_pos e3]
 rw [if_neg e3];simp only [↓wR,zT,simprocAttr,h3];rw [cp];refine ⟨fun ⟨h4,e4⟩=>?_,fun ⟨h4,e4⟩=>?_⟩
 ·simp only [↓wR,zT,simprocAttr,h4,ka,hk _ e4 (by decide) (by decide)];rw [if_pos e4]
 rw [if_neg e4];simp only [↓wR,zT,simprocAttr,h4];rw [cp];refine ⟨fun ⟨h5,e5⟩=>?_,fun ⟨h5,e5⟩=>?_⟩
 ·simp only [↓wR,zT,simprocAttr,h5,ka,hk _ e5 (by decide) (by decide)];rw [if_pos e5]
 rw [if_neg e5];simp only [↓wR,zT,simprocAttr,h5];rw [cp];refine ⟨fun ⟨h6,e6⟩=>?_,fun ⟨h6,e6⟩=>?_⟩
 ·simp only [↓wR,zT,simprocAttr,h6,ka,hk _ e6 (by decide) (by decide)];rw [if_pos e6]
 rw [if_neg e6];simp only [↓wR,zT,simprocAttr,h6];rw [cp];refine ⟨fun ⟨h7,e7⟩=>?_,fun ⟨h7,e7⟩=>?_⟩
 ·simp only [↓wR,zT,simprocAttr,h7,ka,hk _ e7 (by decide) (by decide)];rw [if_pos e7]
 rw [if_neg e7];simp only [↓wR,zT,simprocAttr,h7];rw [cp];refine ⟨fun ⟨h8,e8⟩=>?_,fun ⟨h8,e8⟩=>?_⟩
 ·simp only [↓wR,zT,simprocAttr,h8,ka,hk _ e8 (by decide) (by decide)];rw [if_pos e8]
 rw [if_neg e8];simp only [↓wR,zT,simprocAttr,h8];rw [cp];refine ⟨fun ⟨h9,e9⟩=>?_,fun ⟨h9,e9⟩=>?_⟩
 ·simp only [↓wR,zT,simprocAttr,h9,ka,hk _ e9 (by decide) (by decide)];rw [if_pos e9]
 rw [if_neg e9];simp only [↓wR,zT,simprocAttr,h9];have hb:(!qq t)=(if (t.toNat:Int)=0 then false else if (t.toNat:Int)<128 then true else decide (255<(t.toNat:Int))):=by
  unfold qq;rw [zyc]
  split
  ·rename_i h;simp [h]
  ·split
   ·rename_i h1 h2;simp [h1];omega
   ·rename_i h1 h2;simp [h1];omega
 rw [hb];rw [de];refine ⟨fun ⟨h10,jB⟩=>?_,fun ⟨h10,jB⟩=>?_⟩
 ·rw [if_neg jB];simp only [↓wR,zT,simprocAttr,h10];rw [az];refine ⟨fun h11=>?_,fun h11=>?_⟩
  ·rw [if_pos h11];simp only [↓wR,zT,simprocAttr,h11,ka]
  ·rw [if_neg h11];simp only [↓wR,zT,simprocAttr,h11,ka]
 ·rw [if_pos jB];simp only [↓wR,zT,simprocAttr,h10,ka]
noncomputable def aia (x:UInt16 × Unit):Option AV:=some ((r2 ru bq).E true ((du x.1,!qq x.1)))
theorem W8 (x:UInt16 × Unit) (r:AV) (h:aia x=some r):bo PP 171 ((aC ct a0).E x) r:=by cases h;exact bf (ak.nil PP) Tryz.func171 zK zK zK zL (r2 ru bq) true ((du x.1,!qq x.1)) (aJp x.1)
noncomputable abbrev rOf:zE:=(171,true,dg (aC ct a0) aia)
def Cj (n:Int):UInt32:=if n=1 then 255 else if n=2 then 65535 else 4294967295
theorem aAo (n:Int):wl PP [] 0 (Tryz.f199.body.getD .skip) (di PP Tryz.f199.results.toList (fun r st=>(r1 cy).get true st.h r=some (Cj n))) (cj 0 [(bh .i64).val false n]) (ay []):=by
 unfold Cj;unfold Tryz.f199;simp only [↓wR,zT,simprocAttr];rw [cp];refine ⟨fun ⟨h0,e0⟩=>?_,fun ⟨h0,e0⟩=>?_⟩
 ·simp only [↓wR,zT,simprocAttr,h0];rw [if_pos e0];rfl
 rw [if_neg e0];simp only [↓wR,zT,simprocAttr,h0];rw [cp];refine ⟨fun ⟨h1,e1⟩=>?_,fun ⟨h1,e1⟩=>?_⟩
 ·simp only [↓wR,zT,simprocAttr,h1];rw [if_pos e1];rfl
 rw [if_neg e1];simp only [↓wR,zT,simprocAttr,h1];rfl
noncomputable def ajs (x:Int × Unit):Option AV:=some ((r1 cy).E true (Cj x.1))
theorem at7 (x:Int × Unit) (r:AV) (h:ajs x=some r):bo PP 199 ((aC (bh .i64) a0).E x) r:=by cases h;exact bf (ak.nil PP) Tryz.func199 zK zK zK zL (r1 cy) true (Cj x.1) (aAo x.1)
noncomputable abbrev aKb:zE:=(199,true,dg (aC (bh .i64) a0) ajs)
theorem at8 (n:UInt32) (k:Int) (hk : 0<=k/\k<=4):wl PP [] 0 (Tryz.f205.body.getD .skip) (di PP Tryz.f205.results.toList (fun r st=>(r1 (bw bt)).get false st.h r=some ((Et n).drop (4 - k).toNat))) (cj 0 [cy.val false n,(bh .i64).val false k]) (ay []):=by unfold Tryz.f205;simp only [↓wR,zT,simprocAttr];simp (disch:=omega) only [zW];have h4:(4 - k).toNat<=4:=zO;have mE:k=0\/k=1\/k=2\/k=3\/k=4:=zO;simp only [↓wR,zT,simprocAttr,hk,h4];rcases mE with rfl|rfl|rfl|rfl|rfl<;>first|rfl|(simp only [↓wR,zT,simprocAttr,Ya];done)|(simp only [↓wR,zT,simprocAttr,Ya,List.drop,List.take];rfl)
noncomputable def Fh (x:UInt32 × Int × Unit):Option AV:=if 0<=x.2.1/\x.2.1<=4 then some ((r1 (bw bt)).E false (((Et x.1).drop (4 - x.2.1).toNat))) else none
theorem ala (x:UInt32 × Int × Unit) (r:AV) (h:Fh x=some r):bo PP 205 ((aC cy (aC (bh .i64) a0)).E x) r:=by
 by_cases hc : 0<=x.2.1/\x.2.1<=4
 case neg=>simp only [Fh,if_neg hc] at h;cases h
 simp only [Fh,if_pos hc] at h;cases h;exact bf (ak.nil PP) Tryz.func205 zK zK zK zL (r1 (bw bt)) false (((Et x.1).drop (4 - x.2.1).toNat)) (at8 x.1 x.2.1 hc)
noncomputable abbrev aF0:zE:=(205,true,dg (aC cy (aC (bh .i64) a0)) Fh)
theorem aG4 (s:ByteArray) (hs:s.size<=16777216):wl PP [] 0 (Tryz.f200.body.getD .skip) (di PP Tryz.f200.results.toList (fun r st=>(r1 bq).get true st.h r=some (x9 s))) (cj 0 [ah.val false s]) (ay []):=by
 unfold Tryz.f200;simp only [↓wR,zT,simprocAttr];rw [az];refine ⟨fun h1=>?_,fun h1=>?_⟩
 ·have hv:x9 s=false:=by unfold x9;rw [Bool.and_eq_false_iff];right;rw [decide_eq_false_iff_not];omega
  simp only [↓wR,zT,simprocAttr,h1,hv]
 simp only [↓wR,zT,simprocAttr,h1];rw [az];refine ⟨fun h2=>?_,fun h2=>?_⟩
 ·have hv:x9 s=false:=by unfold x9;rw [Bool.and_eq_false_iff];right;rw [decide_eq_false_iff_not];omega
  simp only [↓wR,zT,simprocAttr,h2,hv]
 simp only [↓wR,zT,simprocAttr,h2];refine da [0,3] (fun (i:Nat)=>[.sc (.string s),.sc (.int .i64 i)]) (fun _=>[]) (fun i=>i<=s.size/\s.data.toList.all Ft=(s.data.toList.drop i).all Ft) (fun i=>s.size - i) 0 ⟨zzb _,rfl⟩ zS zS ?_;rintro i ⟨hi,hR⟩;simp only [↓wR,zT,simprocAttr];rw [az];refine ⟨fun h=>?_,fun h=>?_⟩
 ·obtain ⟨c,hc⟩:∃ c,s.data.toList[i]? = some c:=⟨_,zh (by simp;omega)⟩;have hd:=F9 hc;rw [hd,List.all_cons] at hR
  repeat (first|simp only [↓wR,zT,simprocAttr,h,hc]|simp (disch:=omega) only [zW])
  repeat' (rw [az];refine ⟨fun h=>?_,fun h=>?_⟩<;>simp only [↓wR,zV,simprocAttr,h,hc])
  all_goals first
   |(
    have ht:Ft c=false:=by (unfold Ft;rw [decide_eq_false_iff_not];omega)
    rw [x9,hR,ht];rfl)
   |(
    have ht:Ft c=true:=by (unfold Ft;rw [decide_eq_true_eq];omega)
    refine ⟨i+1,⟨zO,by rw [hR,ht];simp⟩,zO,zF⟩)
 ·have kR:s.data.toList.drop i=[]:=zzx (by simp;omega);rw [kR,List.all_nil] at hR;have hv:x9 s=true:=by unfold x9;rw [hR,Bool.true_and,decide_eq_true_eq];omega
  simp only [↓wR,zT,simprocAttr,h,hv]
noncomputable def Xx (x:ByteArray × Unit):Option AV:=if x.1.size<=16777216 then some ((r1 bq).E true (x9 x.1)) else none
theorem ayb (x:ByteArray × Unit) (r:AV) (h:Xx x=some r):bo PP 200 ((aC ah a0).E x) r:=by obtain ⟨hc,rfl⟩:=zI h;exact bf (ak.nil PP) Tryz.func200 zK zK zK zL (r1 bq) true (x9 x.1) (aG4 x.1 hc)
noncomputable abbrev aLy:zE:=(200,true,dg (aC ah a0) Xx)
noncomputable def T1 (t:UInt16) (d:bp):Bool:=if (t.toNat:Int)=257 then x9 (d.texts.headD ⟨#[]⟩) else true
noncomputable def au7 (t:UInt16) (d:bp):Bool:=if (t.toNat:Int)=16/\(d.texts.any fun x=>decide (255<x.size))=true then false else T1 t d
noncomputable def ahi (s:Shape) (t:UInt16) (d:bp):Bool:=if (d.nums.any fun n=>decide ((Cj s.size).toNat<n.toNat))=true then false else au7 t d
def tv (s:Shape) (d:bp):Prop:=((d.names.length:Int)≠s.names\/(d.nums.length:Int)≠s.nums)\/(0<=s.texts/\(d.texts.length:Int)≠s.texts)\/(s.texts<0/\(d.texts.length:Int)=0)\/(0<=s.raw/\(d.raw.length:Int)≠s.raw)
noncomputable def Iq (s:Shape) (t:UInt16) (d:bp):Bool:=open Classical in if tv s d then false else ahi s t d
def aam (s:Shape) (t:UInt16):Prop:=(t.toNat:Int)=257->s.texts=2
instance (s:Shape) (t:UInt16):Decidable (aam s t):=inferInstanceAs (Decidable (_->_))
set_option maxHeartbeats 4000000 in
theorem aDg (s:Shape) (t:UInt16) (d:bp) (hd:ca d) (fN:aam s t):wl PP [aKb,aLy] 0 (Tryz.f172.body.getD .skip) (di PP Tryz.f172.results.toList (fun r st=>(r1 bq).get true st.h r=some (Iq s t d))) (cj 0 [ct.val false t,ru.val false s,ai.val false d]) (ay []):=by
 obtain ⟨l1,l2,l3,l4⟩:=hd.lens;have dS:tv s d->Iq s t d=false:=fun h=>if_pos h
 have aB:¬ tv s d->Iq s t d=ahi s t d:=fun h=>if_neg h
 unfold Tryz.f172;simp only [z9,jn,cr];have hg:∀ (L:SL) (P1:Prop),(P1->0<d.texts.length)->True:=fun _ _ _=>trivial
 simp only [↓wR,zT,simprocAttr];rw [de];refine ⟨fun ⟨a1,e1⟩=>?_,fun ⟨a1,e1⟩=>?_⟩
 ·have hv:=dS (.inl (.inl e1));simp only [↓wR,zT,simprocAttr,a1,hv]
 simp only [↓wR,zT,simprocAttr,a1];rw [de];refine ⟨fun ⟨a2,e2⟩=>?_,fun ⟨a2,e2⟩=>?_⟩
 ·have hv:=dS (.inl (.inr e2));simp only [↓wR,zT,simprocAttr,a2,hv]
 simp only [↓wR,zT,simprocAttr,a2];rw [az];refine ⟨fun h3=>?_,fun h3=>?_⟩;simp only [↓wR,zT,simprocAttr,h3];rw [de];refine ⟨fun ⟨a3,e3⟩=>?_,fun ⟨a3,e3⟩=>?_⟩;have hv:=dS (.inr (.inl ⟨h3,e3⟩));simp only [↓wR,zT,simprocAttr,a3,hv];simp only [↓wR,zT,simprocAttr,a3];rw [az];refine ⟨fun h4=>?_,fun h4=>?_⟩;exfalso;omega;simp only [↓wR,zT,simprocAttr,h4];rw [az];refine ⟨fun h5=>?_,fun h5=>?_⟩;simp only [↓wR,zT,simprocAttr,h5];rw [de];refine ⟨fun ⟨a4,e4⟩=>?_,fun ⟨a4,e4⟩=>?_⟩;have hv:=dS (.inr (.inr (.inr ⟨h5,e4⟩)));simp only [↓wR,zT,simprocAttr,a4,hv];have hv:=aB (by unfold tv;omega);have hp:(t.toNat:Int)=257->0<d.texts.length:=fun q=>by have:=fN q;omega
 simp only [↓wR,zT,simprocAttr,a4];rotate_left;have hv:=aB (by unfold tv;omega);have hp:(t.toNat:Int)=257->0<d.texts.length:=fun q=>by have:=fN q;omega
 simp only [↓wR,zT,simprocAttr,h5];rotate_left;simp only [↓wR,zT,simprocAttr,h3];rw [az];refine ⟨fun h4=>?_,fun h4=>?_⟩;simp only [↓wR,zT,simprocAttr,h4];rw [cp];refine ⟨fun ⟨a3,e3⟩=>?_,fun ⟨a3,e3⟩=>?_⟩;have hv:=dS (.inr (.inr (.inl ⟨h4,e3⟩)));simp only [↓wR,zT,simprocAttr,a3,hv];simp only [↓wR,zT,simprocAttr,a3];rw [az];refine ⟨fun h5=>?_,fun h5=>?_⟩;simp only [↓wR,zT,simprocAttr,h5];rw [de];refine ⟨fun ⟨a4,e4⟩=>?_,fun ⟨a4,e4⟩=>?_⟩;have hv:=dS (.inr (.inr (.inr ⟨h5,e4⟩)));simp only [↓wR,zT,simprocAttr,a4,hv];have hv:=aB (by unfold tv;omega);have hp:(t.toNat:Int)=257->0<d.texts.length:=fun q=>by have:=fN q;omega
 simp only [↓wR,zT,simprocAttr,a4];rotate_left;have hv:=aB (by unfold tv;omega);have hp:(t.toNat:Int)=257->0<d.texts.length:=fun q=>by have:=fN q;omega
 simp only [↓wR,zT,simprocAttr,h5];rotate_left;exfalso;omega
 all_goals
  rw [hv];clear hv hg dS aB fN;unfold ahi;refine da [0,4,5,7] (fun (i:Nat)=>[.sc (.int .u16 t.toNat),.ptr 0 0,.ptr 1 0,zi i]) (fun _=>[some (.row [.sc (.int .i64 (s).names),.sc (.int .i64 (s).nums),.sc (.int .i64 (s).texts),.sc (.int .i64 (s).raw),.sc (.int .i64 (s).size)] 0 2 209),some (.row [zv d.names,zu d.nums,zn d.texts,zw d.raw] 0 2 116)]) (fun i=>i<=d.nums.length/\(d.nums.any fun n=>decide ((Cj s.size).toNat<n.toNat))=((d.nums.drop i).any fun n=>decide ((Cj s.size).toNat<n.toNat))) (fun i=>d.nums.length - i) 0 ⟨zzb _,by rw [List.drop_zero]⟩ zS zS ?_;rintro i ⟨hi,hR⟩;simp only [↓wR,zT,simprocAttr];rw [az];refine ⟨fun h=>?_,fun h=>?_⟩
  ·obtain ⟨c,hc,aH,hlt⟩:=fi (zp h);rw [aH,List.any_cons] at hR;simp only [↓wR,zT,simprocAttr,h];refine ⟨zK,.inl ?_⟩;simp only [↓wR,zT,simprocAttr,hc,ajs];refine ⟨zK,?_⟩;rw [az];refine ⟨fun h6=>?_,fun h6=>?_⟩
   ·rw [if_pos (by rw [hR,zp zO,Bool.true_or])];simp only [↓wR,zT,simprocAttr,h6]
   ·repeat (first|simp only [↓wR,zT,simprocAttr,h6]|simp (disch:=omega) only [zW])
    exact ⟨i+1,⟨hlt,by rw [hR,zq zO,Bool.false_or]⟩,zO,zF⟩
  rw [gz (zq h),List.any_nil] at hR;rw [if_neg (by rw [hR];decide)];simp only [↓wR,zT,simprocAttr,h];unfold au7;refine da [0,5,8] (fun (i:Nat)=>[.sc (.int .u16 t.toNat),.ptr 0 0,zi i]) (fun _=>[some (.row [zv d.names,zu d.nums,zn d.texts,zw d.raw] 0 2 116)]) (fun i=>i<=d.texts.length/\(d.texts.any fun x=>decide (255<x.size))=((d.texts.drop i).any fun x=>decide (255<x.size))) (fun i=>d.texts.length - i) 0 ⟨zzb _,by rw [List.drop_zero]⟩ zS zS ?_;rintro i ⟨bG,hR2⟩;simp only [↓wR,zT,simprocAttr];rw [cp];refine ⟨fun ⟨h7,e7⟩=>?_,fun ⟨h7,e7⟩=>?_⟩
  ·simp only [↓wR,zT,simprocAttr,h7];rw [az];refine ⟨fun h8=>?_,fun h8=>?_⟩
   ·obtain ⟨c,hc,aH,hlt⟩:=fi (zp h8);rw [aH,List.any_cons] at hR2;simp only [↓wR,zT,simprocAttr,h8,hc];rw [az];refine ⟨fun h9=>?_,fun h9=>?_⟩
    ·rw [if_pos ⟨e7,by rw [hR2,zp zO,Bool.true_or]⟩];simp only [↓wR,zT,simprocAttr,h9]
    ·repeat (first|simp only [↓wR,zT,simprocAttr,h9]|simp (disch:=omega) only [zW])
     exact ⟨i+1,⟨hlt,by rw [hR2,zq zO,Bool.false_or]⟩,zO,zF⟩
   ·rw [gz (zq h8),List.any_nil] at hR2;rw [if_neg (by rw [hR2];rintro ⟨_,q⟩;cases q)];have hv:T1 t d=true:=if_neg zO;rw [hv];simp only [↓wR,zT,simprocAttr,h8,e7]
  ·rw [if_neg (fun q=>e7 q.1)];simp only [↓wR,zT,simprocAttr,h7];rw [de];refine ⟨fun ⟨h10,jB⟩=>?_,fun ⟨h10,jB⟩=>?_⟩
   ·have hv:T1 t d=true:=if_neg jB;rw [hv];simp only [↓wR,zT,simprocAttr,h10]
   ·obtain ⟨c,hc⟩:∃ c,d.texts[0]? = some c:=⟨_,zh (hp jB)⟩;have hh:d.texts.headD ⟨#[]⟩=c:=by
     cases ht:d.texts with
     |nil=>rw [ht] at hc;cases hc
     |cons a l=>rw [ht] at hc;simpa using hc
    have hv:T1 t d=x9 c:=by unfold T1;rw [if_pos jB,hh]
    rw [hv];simp only [↓wR,zT,simprocAttr,h10,hc,Xx,hd.text c (zm hc)]
noncomputable def Tm (x:UInt16 × Shape × bp × Unit):Option AV:=if ca x.2.2.1/\aam x.2.1 x.1 then some ((r1 bq).E true (Iq x.2.1 x.1 x.2.2.1)) else none
theorem aua (x:UInt16 × Shape × bp × Unit) (r:AV) (h:Tm x=some r):bo PP 172 ((aC ct (aC ru (aC ai a0))).E x) r:=by obtain ⟨hc,rfl⟩:=zI h;exact bf (ak.cons (aq at7) (ak.cons (aq ayb) (ak.nil PP))) Tryz.func172 zK zK zK zL (r1 bq) true (Iq x.2.1 x.1 x.2.2.1) (aDg x.2.1 x.1 x.2.2.1 hc.1 hc.2)
noncomputable abbrev aKd:zE:=(172,true,dg (aC ct (aC ru (aC ai a0))) Tm)
def Cq (l:List Name):Nat:=(l.map br).sum
def Cs (t:UInt16):Nat->List ByteArray->Nat
 |_,[]=>0
 |i,x::r=>x.size+(if (t.toNat:Int)=16\/i=0 then 1 else 0)+Cs t (i+1) r
theorem aGr (l:List Name):Cq l<=dk br l:=by
 induction l with
 |nil=>exact zza _
 |cons a l ih=>simp only [Cq,List.map_cons,List.sum_cons,dk,List.foldr_cons] at ih ⊢;omega
theorem aE1 (t:UInt16) (l:List ByteArray):∀ i,Cs t i l<=dk ByteArray.size l:=by
 induction l with
 |nil=>intro i;exact zza _
 |cons a l ih=>
  intro i;have:=ih (i+1);simp only [Cs,dk,List.foldr_cons] at this ⊢
  split<;>omega
def Nj (s:Shape) (t:UInt16) (d:bp):Int:=d.raw.length+d.nums.length * s.size+Cq d.names+Cs t 0 d.texts
theorem aF9 {l:List Name} {i:Nat} {c:Name} (h:l.drop i=c::l.drop (i+1)):Cq (l.drop i)=br c+Cq (l.drop (i+1)):=by rw [h];simp [Cq]
theorem aE6 {t:UInt16} {l:List ByteArray} {i:Nat} {c:ByteArray} (h:l.drop i=c::l.drop (i+1)):Cs t i (l.drop i)=c.size+(if (t.toNat:Int)=16\/i=0 then 1 else 0)+Cs t (i+1) (l.drop (i+1)):=by rw [h];rfl
set_option maxHeartbeats 4000000 in
theorem ax3 (s:Shape) (t:UInt16) (d:bp) (hd:ca d) (hs : 0<=s.size/\s.size<=4):wl PP [av4] 0 (Tryz.f173.body.getD .skip) (di PP Tryz.f173.results.toList (fun r st=>(r1 (bh .i64)).get true st.h r=some (Nj s t d))) (cj 0 [ct.val false t,ru.val false s,ai.val false d]) (ay []):=by
 obtain ⟨l1,l2,l3,l4⟩:=hd.lens;have hn:=aGr d.names;have ht:=aE1 t d.texts 0;have hw:dk br d.names+dk ByteArray.size d.texts<=16777216:=by unfold ca ly at hd;omega
 have hm0 : 0<=(d.nums.length:Int) * s.size:=Int.mul_nonneg zO hs.1;have hm1:(d.nums.length:Int) * s.size<=d.nums.length * 4:=Int.mul_le_mul_of_nonneg_left hs.2 zO;have hz:Nj s t d=d.raw.length+d.nums.length * s.size+Cq d.names+Cs t 0 d.texts:=rfl;obtain ⟨A,hA⟩:∃ A:Int,A=d.raw.length+d.nums.length * s.size:=⟨_,rfl⟩;rw [hz,<- hA];have rR : 0<=A/\A<=134217728:=zO;unfold Tryz.f173;simp only [z9,jn,cr];simp only [↓wR,zT,simprocAttr];simp (disch:=omega) only [zW];rw [<- hA];refine da [0,5,7,8] (fun (i:Nat)=>[.sc (.int .u16 t.toNat),.ptr 0 0,zi (A+(Cq d.names - Cq (d.names.drop i):Nat)),zi i]) (fun _=>[some (.row [zv d.names,zu d.nums,zn d.texts,zw d.raw] 0 2 116)]) (fun i=>i<=d.names.length/\Cq (d.names.drop i)<=Cq d.names) (fun i=>d.names.length - i) 0 ⟨zzb _,zza _⟩ (by simp only [↓wR,zT,simprocAttr]<;>first|rfl|(rw [List.drop_zero,Nat.sub_self,Int.add_zero])) zS ?_;rintro i ⟨hi,hx⟩;simp only [↓wR,zT,simprocAttr];rw [az];refine ⟨fun h=>?_,fun h=>?_⟩
 ·obtain ⟨c,hc,aH,hlt⟩:=fi (zp h);have e1:=aF9 aH;have rH:=hd.name c (zm hc)
  repeat (first|simp only [↓wR,zT,simprocAttr,h,hc,F7,rH.fit]|simp (disch:=omega) only [zW])
  exact ⟨i+1,⟨hlt,zO⟩,zO,zF⟩
 rw [gz (zq h)];have e0:Cq []=0:=rfl;rw [e0,Nat.sub_zero];simp only [↓wR,zT,simprocAttr,h];refine da [0,5,7,9] (fun (i:Nat)=>[.sc (.int .u16 t.toNat),.ptr 0 0,zi (A+Cq d.names+(Cs t 0 d.texts - Cs t i (d.texts.drop i):Nat)),zi i]) (fun _=>[some (.row [zv d.names,zu d.nums,zn d.texts,zw d.raw] 0 2 116)]) (fun i=>i<=d.texts.length/\Cs t i (d.texts.drop i)<=Cs t 0 d.texts) (fun i=>d.texts.length - i) 0 ⟨zzb _,zza _⟩ (by simp only [↓wR,zT,simprocAttr]<;>first|rfl|(rw [List.drop_zero,Nat.sub_self,Int.add_zero])) zS ?_;rintro i ⟨hi,hx⟩;simp only [↓wR,zT,simprocAttr];rw [az];refine ⟨fun h2=>?_,fun h2=>?_⟩
 ·obtain ⟨c,hc,aH,hlt⟩:=fi (zp h2);have e1:=aE6 (t:=t) aH
  repeat (first|simp only [↓wR,zT,simprocAttr,h2,hc]|simp (disch:=omega) only [zW])
  rw [cp];refine ⟨fun ⟨h3,e3⟩=>?_,fun ⟨h3,e3⟩=>?_⟩
  ·rw [if_pos (.inl e3)] at e1
   repeat (first|simp only [↓wR,zT,simprocAttr,h3]|simp (disch:=omega) only [zW])
   exact ⟨i+1,⟨hlt,zO⟩,zO,zF⟩
  ·simp only [↓wR,zT,simprocAttr,h3];rw [cp];refine ⟨fun ⟨h4,e4⟩=>?_,fun ⟨h4,e4⟩=>?_⟩
   ·rw [if_pos (.inr zO)] at e1
    repeat (first|simp only [↓wR,zT,simprocAttr,h4]|simp (disch:=omega) only [zW])
    exact ⟨i+1,⟨hlt,zO⟩,zO,zF⟩
   ·rw [if_neg zO] at e1
    repeat (first|simp only [↓wR,zT,simprocAttr,h4]|simp (disch:=omega) only [zW])
    exact ⟨i+1,⟨hlt,zO⟩,zO,zF⟩
 rw [gz (zq h2)];have e1:Cs t i []=0:=by cases i<;>rfl
 rw [e1,Nat.sub_zero];simp only [↓wR,zT,simprocAttr,h2]
noncomputable def Ms (x:UInt16 × Shape × bp × Unit):Option AV:=if ca x.2.2.1/\(0<=x.2.1.size/\x.2.1.size<=4) then some ((r1 (bh .i64)).E true (Nj x.2.1 x.1 x.2.2.1)) else none
theorem apd (x:UInt16 × Shape × bp × Unit) (r:AV) (h:Ms x=some r):bo PP 173 ((aC ct (aC ru (aC ai a0))).E x) r:=by obtain ⟨hc,rfl⟩:=zI h;exact bf (ak.cons (aq Vc) (ak.nil PP)) Tryz.func173 zK zK zK zL (r1 (bh .i64)) true (Nj x.2.1 x.1 x.2.2.1) (ax3 x.2.1 x.1 x.2.2.1 hc.1 hc.2)
noncomputable abbrev aIt:zE:=(173,true,dg (aC ct (aC ru (aC ai a0))) Ms)
theorem af8 (s:Shape):(⟨s.names,s.nums,s.size,s.texts,s.raw⟩:Shape)=s:=rfl
theorem G0 (t:UInt16):((t.toNat:Int)=16/\(du t).texts = -1/\(du t).nums=0/\(du t).size=0/\(du t).raw=0)\/((t.toNat:Int)=257/\(du t).texts=2/\(du t).nums=1/\(du t).size=1/\(du t).raw=0) \/
 ((t.toNat:Int)≠16/\(t.toNat:Int)≠257/\(du t).texts=0/\(((du t).size=0/\(du t).nums=0)\/(du t).size=2\/(du t).size=4)/\((t.toNat:Int)=6->(du t).raw=0)):=by
 unfold du
 split
 ·exact .inr (.inr ⟨zO,zO,rfl,.inl ⟨rfl,rfl⟩,zO⟩)
 split
 ·exact .inr (.inr ⟨zO,zO,rfl,.inl ⟨rfl,rfl⟩,zO⟩)
 split
 ·exact .inr (.inr ⟨zO,zO,rfl,.inl ⟨rfl,rfl⟩,zO⟩)
 split
 ·exact .inr (.inr ⟨zO,zO,rfl,.inl ⟨rfl,rfl⟩,zO⟩)
 split
 ·exact .inr (.inr ⟨zO,zO,rfl,.inl ⟨rfl,rfl⟩,zO⟩)
 split
 ·exact .inr (.inr ⟨zO,zO,rfl,.inr (.inr rfl),fun _=>rfl⟩)
 split
 ·exact .inr (.inr ⟨zO,zO,rfl,.inr (.inl rfl),zO⟩)
 split
 ·exact .inr (.inr ⟨zO,zO,rfl,.inr (.inl rfl),zO⟩)
 split
 ·exact .inl ⟨by assumption,rfl,rfl,rfl,rfl⟩
 split
 ·exact .inr (.inl ⟨by assumption,rfl,rfl,rfl,rfl⟩)
 ·exact .inr (.inr ⟨zO,zO,rfl,.inl ⟨rfl,rfl⟩,zO⟩)
theorem Og {α:Type} {p q : α->Bool}:∀ {l:List α},(∀ x ∈ l,p x=q x)->l.any p=l.any q
 | [],_=>rfl
 |a::l,h=>by rw [List.any_cons,List.any_cons,h a (by simp),Og (fun x hx=>h x (by simp [hx]))]
theorem aGz (s:Shape) (hs:s.size=0\/s.size=1\/s.size=2\/s.size=4) (l:List UInt32) (h0:s.size=0->l=[]):(s.size<4/\(l.any fun n=>decide (Ev s<=(n.toNat:Int)))=true)↔(l.any fun n=>decide ((Cj s.size).toNat<n.toNat))=true:=by
 have hb:∀ n:UInt32,n.toNat<4294967296:=fun n=>n.toNat_lt
 rcases hs with h|h|h|h
 ·rw [h0 h];simp
 ·have e1:Ev s=256:=by unfold Ev;rw [h];rfl
  have e2:(Cj s.size).toNat=255:=by rw [h];rfl
  rw [e1,e2,Og (q:=fun n=>decide (255<n.toNat)) (fun n _=>by rw [decide_eq_decide];omega)];exact ⟨fun q=>q.2,fun q=>⟨zO,q⟩⟩
 ·have e1:Ev s=65536:=by unfold Ev;rw [h];rfl
  have e2:(Cj s.size).toNat=65535:=by rw [h];rfl
  rw [e1,e2,Og (q:=fun n=>decide (65535<n.toNat)) (fun n _=>by rw [decide_eq_decide];omega)];exact ⟨fun q=>q.2,fun q=>⟨zO,q⟩⟩
 ·have e2:(Cj s.size).toNat=4294967295:=by rw [h];rfl
  rw [e2];refine ⟨fun q=>by omega,fun q=>?_⟩;obtain ⟨n,_,hn⟩:=List.any_eq_true.1 q;have:=hb n;simp at hn;omega
theorem ac3 (t:UInt16) (d:bp):Iq (du t) t d=xo (du t) t d:=by
 have hk:=G0 t;unfold Iq xo ahi au7 T1;by_cases hb:(d.names.length:Int)≠(du t).names\/(d.nums.length:Int)≠(du t).nums\/(0<=(du t).raw/\(d.raw.length:Int)≠(du t).raw)
 ·rw [if_pos hb,if_pos (by unfold tv;omega)]
 rw [if_neg hb];have hm:=aGz (du t) zO d.nums (fun e=>zzf zO);by_cases hm1:(d.nums.any fun n=>decide ((Cj (du t).size).toNat<n.toNat))=true
 ·rw [if_pos (hm.2 hm1),if_pos hm1,ite_self]
 rw [if_neg (fun q=>hm1 (hm.1 q)),if_neg hm1];rcases hk with ⟨k1,k2,_⟩|⟨k1,k2,_⟩|⟨k1,k2,k3,_⟩
 ·rw [if_neg (show ¬ (t.toNat:Int)=257 by omega),if_neg (show ¬ (t.toNat:Int)=257 by omega),if_neg (show ¬ (du t).texts=0 by omega)];by_cases hl:d.texts.length=0
  ·rw [if_pos (by unfold tv;omega),zq zO,Bool.false_and]
  ·rw [if_neg (by unfold tv;omega),zp zO,Bool.true_and];cases ha:(d.texts.any fun x=>decide (255<x.size)) with
   |true=>rw [if_pos ⟨k1,rfl⟩];rfl
   |false=>rw [if_neg (by rintro ⟨_,q⟩;cases q)];rfl
 ·rw [if_pos k1,if_pos k1];by_cases hl:d.texts.length=2
  ·rw [if_neg (show ¬ tv (du t) d by unfold tv;omega),zp hl,Bool.true_and,if_neg (fun q=>by have:=q.1;omega)]
  ·rw [if_pos (show tv (du t) d by unfold tv;omega),zq hl,Bool.false_and]
 ·rw [if_neg k2,if_neg k2,if_pos k3];by_cases hl:d.texts.length=0
  ·rw [if_neg (show ¬ tv (du t) d by unfold tv;omega),zp hl,if_neg (fun q=>by have:=q.1;omega)]
  ·rw [if_pos (show tv (du t) d by unfold tv;omega),zq hl]
theorem aao:∀ {l:List Name},ny l=0->(l.flatMap n8).length=Cq l
 | [],_=>rfl
 |n::l,h=>by
  unfold ny at h
  split at h
  ·exact absurd h (by assumption)
  ·rename_i h1;have h2:cg n=0:=zO;have h3:=rp n;rw [List.flatMap_cons,za,aao h];simp only [n8,h2,ne_eq,not_true,if_false,nameBytes,za,zyi,Cq,List.map_cons,List.sum_cons];omega
theorem Yb (t:UInt16):∀ (l:List ByteArray) (i:Nat),(te t i l).length=Cs t i l
 | [],i=>rfl
 |x::l,i=>by
  have:=Yb t l (i+1);have hx:x.data.toList.length=x.size:=by simp
  simp only [te,Cs,za,this,hx]
  split<;>simp<;>omega
theorem Yr (t:UInt16) (hs : 0<=(du t).size/\(du t).size<=4):∀ l:List UInt32,((l.flatMap (Es t)).length:Int)=l.length * (du t).size
 | []=>by simp
 |n::l=>by
  have:=Yr t hs l;have h1:((Es t n).length:Int)=(du t).size:=by unfold Es;rw [zzt,Km];omega
  rw [List.flatMap_cons,za,List.length_cons,Int.natCast_add,this,h1,Int.natCast_add,Int.add_mul];omega
theorem aDj (t:UInt16) (d:bp) (hf:xo (du t) t d=true) (hn:ny d.names=0):Nj (du t) t d=((qp t d).length:Int):=by
 have hk:=G0 t;have h1:=Yr t (Ez t) d.nums;have h2:=aao hn;have h3:=Yb t d.texts 0;unfold Nj qp;change ((As t d).length:Int)=_ at h1;change (wq d).length=_ at h2;change (vj t d).length=_ at h3
 split
 ·rename_i h6;rw [<- ac3] at hf;unfold Iq at hf
  split at hf
  ·cases hf
  ·rename_i hb;unfold tv at hb;have e1:d.texts=[]:=zzf zO;rw [e1];rw [za];have:Cs t 0 []=0:=rfl;omega
 ·simp only [za];omega
set_option maxHeartbeats 4000000 in
theorem agm (t:UInt16) (d:bp) (hd:ca d):wl PP [rOf,aKd,uc,aIt] 0 (Tryz.f123.body.getD .skip) (di PP Tryz.f123.results.toList (fun r st=>(r1 (bh .i64)).get true st.h r=some (c8 t d))) (cj 0 [ct.val false t,ai.val false d]) (ay []):=by
 have hs:=Ez t;have hl:=hd.lens;have fN:aam (du t) t:=fun e=>by have:=G0 t;omega
 have hsz:=aDj t d;unfold Tryz.f123;simp only [jn,cr];simp only [↓wR,zT,simprocAttr,aia,z9];unfold c8;rw [dv];refine ⟨fun hb=>?_,fun hb=>?_⟩
 ·have hb':qq t=true:=by simpa using hb
  rw [if_pos hb'];simp only [↓wR,zT,simprocAttr,hb]
 have hb':qq t=false:=by simpa using hb
 rw [if_neg (by rw [hb'];decide)];simp only [↓wR,zT,simprocAttr,hb,ka,af8,Tm,hd,fN,ac3];rw [dv];refine ⟨fun hf=>?_,fun hf=>?_⟩
 ·rw [if_pos (by simpa using hf)];simp only [↓wR,zT,simprocAttr,hf]
 have hf':xo (du t) t d=true:=by simpa using hf
 rw [if_neg (by rw [hf'];decide)];simp only [↓wR,zT,simprocAttr,hf];refine da [0,3,5,7] (fun (i:Nat)=>[.sc (.int .u16 t.toNat),.ptr 0 0,.ptr 1 0,zi i]) (fun _=>[some (.row [zv d.names,zu d.nums,zn d.texts,zw d.raw] 0 2 116),some (.row [.sc (.int .i64 (du t).names),.sc (.int .i64 (du t).nums),.sc (.int .i64 (du t).texts),.sc (.int .i64 (du t).raw),.sc (.int .i64 (du t).size)] 0 2 209)]) (fun i=>i<=d.names.length/\ny d.names=ny (d.names.drop i)) (fun i=>d.names.length - i) 0 ⟨zzb _,rfl⟩ zS zS ?_;rintro i ⟨hi,hx⟩;simp only [↓wR,zT,simprocAttr];rw [az];refine ⟨fun h=>?_,fun h=>?_⟩
 ·obtain ⟨c,hc,aH,hlt⟩:=fi (zp h);rw [Vw aH] at hx;simp only [↓wR,zT,simprocAttr,h,hc,n9,(hd.name c (zm hc)).fit];rw [dv];refine ⟨fun h1=>?_,fun h1=>?_⟩
  ·have he:cg c≠0:=by simpa using h1
   rw [if_pos he] at hx;rw [if_pos (by rw [hx];exact he),hx];simp only [↓wR,zT,simprocAttr,h1]
  ·have he:cg c=0:=by simpa using h1
   rw [if_neg zO] at hx
   repeat (first|simp only [↓wR,zT,simprocAttr,h1]|simp (disch:=omega) only [zW])
   exact ⟨i+1,⟨hlt,hx⟩,zO,zF⟩
 rw [gz (zq h)] at hx;have hx0:ny d.names=0:=hx;rw [if_neg (by rw [hx];decide)];simp only [↓wR,zT,simprocAttr,h,ka,af8,Ms,hd,hs,hsz hf' hx0];rw [az];refine ⟨fun h2=>?_,fun h2=>?_⟩
 ·rw [if_pos zO];simp only [↓wR,zT,simprocAttr,h2]
 ·rw [if_neg zO];simp only [↓wR,zT,simprocAttr,h2]
noncomputable def jo (x:UInt16 × bp × Unit):Option AV:=if ca x.2.1 then some ((r1 (bh .i64)).E true (c8 x.1 x.2.1)) else none
theorem wv (x:UInt16 × bp × Unit) (r:AV) (h:jo x=some r):bo PP 123 ((aC ct (aC ai a0)).E x) r:=by obtain ⟨hc,rfl⟩:=zI h;exact bf (ak.cons (aq W8) (ak.cons (aq aua) (ak.cons (aq Cd) (ak.cons (aq apd) (ak.nil PP))))) Tryz.func123 zK zK zK zL (r1 (bh .i64)) true (c8 x.1 x.2.1) (agm x.1 x.2.1 hc)
noncomputable abbrev ma:zE:=(123,true,dg (aC ct (aC ai a0)) jo)
theorem ago (n:Name) (hn:bj n):wl PP [uc] 0 (Tryz.f204.body.getD .skip) (di PP Tryz.f204.results.toList (fun r st=>(r2 (bw bt) (bh .i64)).get true st.h r=some (n8 n,cg n))) (cj 0 [au.val false n]) (ay []):=by
 unfold Tryz.f204;simp only [cr];have cG:=hn.lt;simp only [↓wR,zT,simprocAttr,n9,hn.fit];rw [dv];refine ⟨fun h=>?_,fun h=>?_⟩
 ·have he:cg n≠0:=by simpa using h
  have hb:n8 n=[]:=if_pos he;simp only [↓wR,zT,simprocAttr,h,hb]
 have he:cg n=0:=by simpa using h
 have hb:n8 n=nameBytes n:=if_neg zO;rw [hb,he];simp only [↓wR,zT,simprocAttr,h];refine i9 [0,6,5] (fun (x:Nat × List UInt8)=>[zn n,.sc (.int .i64 x.1),.sl 0 0 x.2.length 1]) (fun x=>[some (.row (x.2.map (bt.val false)) 0 0 5)]) (fun x=>x.2++(n.drop x.1).flatMap jh=n.flatMap jh/\x.1<=n.length) (fun x=>n.length - x.1) (0,[]) ⟨rfl,zzb _⟩ zX ?_;rintro ⟨i,x⟩ ⟨hR,hx⟩;simp only at hR hx;have nC:=rp n;have hsm:=P5 he;simp only [↓wR,zT,simprocAttr];rw [az];refine ⟨fun h2=>?_,fun h2=>?_⟩
 ·obtain ⟨c,hc,hd,hlt⟩:=fi (zp h2);rw [hd,List.flatMap_cons] at hR;have hl:x.length+(jh c).length<=(n.flatMap jh).length:=by rw [<- hR];simp
  rw [Gr] at hl
  repeat (first|simp only [↓wR,zT,simprocAttr,h2,hc]|simp (disch:=omega) only [zW])
  refine ⟨(i+1,x++jh c),⟨by rw [<- hR];simp,hlt⟩,by simp;omega,?_,by simp only [jh,zzw,List.map_cons,zzc,List.singleton_append,Hm]⟩;simp only [List.cons.injEq,and_true,true_and,AV.sc.injEq,Value.int.injEq,AV.sl.injEq,jh,za,List.length_cons];refine ⟨by (try simp (disch:=omega) only [zW]);simp,by simp;omega⟩
 ·rw [gz (zq h2)] at hR;obtain rfl:x=n.flatMap jh:=by simpa using hR
  have hcl:(n.flatMap jh).length<=16777216:=by unfold bj at hn;omega
  repeat (first|simp only [↓wR,zT,simprocAttr,h2]|simp (disch:=omega) only [zW])
  rfl
noncomputable def u1 (x:Name × Unit):Option AV:=if bj x.1 then some ((r2 (bw bt) (bh .i64)).E true ((n8 x.1,cg x.1))) else none
theorem X9 (x:Name × Unit) (r:AV) (h:u1 x=some r):bo PP 204 ((aC au a0).E x) r:=by obtain ⟨hc,rfl⟩:=zI h;exact bf (ak.cons (aq Cd) (ak.nil PP)) Tryz.func204 zK zK zK zL (r2 (bw bt) (bh .i64)) true ((n8 x.1,cg x.1)) (ago x.1 hc)
noncomputable abbrev at3:zE:=(204,true,dg (aC au a0) u1)
theorem aJd {t:UInt16} {d:bp} (h:c8 t d=0):(t.toNat:Int)=6->d.names.length=2/\d.texts=[]/\d.raw=[]:=by
 intro h6;unfold c8 at h
 split at h
 ·cases h
 split at h
 ·cases h
 rename_i hf;have hf':xo (du t) t d=true:=by cases hx:xo (du t) t d with|true=>rfl|false=>exact absurd hx hf
 rw [<- ac3] at hf';have hk:=G0 t;have hn:(du t).names=2:=by unfold du;rw [if_neg zO,if_neg zO,if_neg zO,if_neg zO,if_neg zO,if_pos h6]
 unfold Iq at hf'
 split at hf'
 ·cases hf'
 ·rename_i hb;unfold tv at hb;exact ⟨zO,zzf zO,zzf zO⟩
noncomputable def Qu (t:UInt16) (d:bp):List UInt8:=if (t.toNat:Int)=6 then wq d else []
noncomputable def ajg (t:UInt16) (d:bp):List UInt8:=if (t.toNat:Int)=6 then [] else wq d
theorem aBz {t:UInt16} {d:bp} (h:(t.toNat:Int)=6->d.texts=[]/\d.raw=[]):qp t d=Qu t d++As t d++ajg t d++vj t d++d.raw:=by
 unfold qp Qu ajg
 split
 ·rename_i h6;obtain ⟨e1,e2⟩:=h h6;have:vj t d=[]:=by unfold vj;rw [e1];rfl
  rw [this,e2];simp
 ·simp
set_option maxHeartbeats 8000000 in
theorem axi (t:UInt16) (d:bp) (hd:ca d) (h0:c8 t d=0):wl PP [rOf,at3,aF0] 0 (Tryz.f183.body.getD .skip) (di PP Tryz.f183.results.toList (fun r st=>(r1 (bw bt)).get true st.h r=some (qp t d))) (cj 0 [ct.val false t,ai.val false d]) (ay []):=by
 have oG:=aJd h0;have hl:=hd.lens;have hk:=hd.written t;have hs:=Ez t;have hpl:(Qu t d).length<=16777216:=by unfold Qu;split;exact hk.2.1;simp
 have cS:(ajg t d).length<=16777216:=by unfold ajg;split;simp;exact hk.2.1
 rw [aBz (fun e=>(oG e).2)];unfold Tryz.f183;simp only [jn,cr];simp only [↓wR,zT,simprocAttr,aia,z9];rw [cp];refine ⟨fun ⟨h6,e6⟩=>?_,fun ⟨h6,e6⟩=>?_⟩;simp only [↓wR,zT,simprocAttr,h6];have aN:=(oG e6).1;refine i9 [0,3,5,8,7] (fun (x:Nat × List UInt8)=>[.sc (.int .u16 t.toNat),.ptr 0 0,.ptr 1 0,zi x.1,.sl 2 0 x.2.length 1]) (fun x=>[some (.row [zv d.names,zu d.nums,zn d.texts,zw d.raw] 0 2 116),some (.row [.sc (.int .i64 (du t).names),.sc (.int .i64 (du t).nums),.sc (.int .i64 (du t).texts),.sc (.int .i64 (du t).raw),.sc (.int .i64 (du t).size)] 0 2 209),some (.row (x.2.map (bt.val false)) 0 0 5)]) (fun x=>x.1<=2/\x.2++(d.names.drop x.1).flatMap n8=wq d) (fun x=>2 - x.1) (0,[]) ⟨zzb _,rfl⟩ zX ?_;rintro ⟨i,x⟩ ⟨hi,hx⟩;simp only at hi hx;simp only [↓wR,zT,simprocAttr];rw [az];refine ⟨fun h=>?_,fun h=>?_⟩
 ·obtain ⟨c,hc⟩:∃ c,d.names[i]? = some c:=⟨_,zh zO⟩;have aH:=F9 hc;rw [Ec _ aH] at hx;have aV:x.length+(n8 c).length<=(wq d).length:=by rw [<- hx];simp
  repeat (first|simp only [↓wR,zT,simprocAttr,h,hc,u1,hd.name c (zm hc)]|simp (disch:=omega) only [zW])
  exact ⟨(i+1,x++n8 c),⟨zO,by rw [zzc];exact hx⟩,by simp;omega,zF,zF⟩
 have bG:d.names.drop i=[]:=zzx zO;rw [bG] at hx;have kE:Qu t d=x:=by unfold Qu;rw [if_pos e6];simpa using hx.symm
 obtain ⟨y1,hy1⟩:∃ y1,y1=x++As t d:=⟨_,rfl⟩;rw [kE] at hpl ⊢;rw [<- hy1];have vQ:y1.length<=83886080:=by rw [hy1,za];omega
 simp only [↓wR,zT,simprocAttr,h];refine i9 [0,3,5,11,7] (fun (x:Nat × List UInt8)=>[.sc (.int .u16 t.toNat),.ptr 0 0,.ptr 1 0,zi x.1,.sl 2 0 x.2.length 1]) (fun x=>[some (.row [zv d.names,zu d.nums,zn d.texts,zw d.raw] 0 2 116),some (.row [.sc (.int .i64 (du t).names),.sc (.int .i64 (du t).nums),.sc (.int .i64 (du t).texts),.sc (.int .i64 (du t).raw),.sc (.int .i64 (du t).size)] 0 2 209),some (.row (x.2.map (bt.val false)) 0 0 5)]) (fun x=>x.1<=d.nums.length/\x.2++(d.nums.drop x.1).flatMap (Es t)=y1) (fun x=>d.nums.length - x.1) (0,x) ⟨zzb _,hy1.symm⟩ zX ?_;clear hx h hi bG h6 kE;rotate_left;simp only [↓wR,zT,simprocAttr,h6];have kE:Qu t d=[]:=by unfold Qu;rw [if_neg e6]
 obtain ⟨y1,hy1⟩:∃ y1,y1=[]++As t d:=⟨_,rfl⟩;rw [kE,<- hy1];have vQ:y1.length<=83886080:=by rw [hy1,List.nil_append];omega
 refine i9 [0,3,5,11,7] (fun (x:Nat × List UInt8)=>[.sc (.int .u16 t.toNat),.ptr 0 0,.ptr 1 0,zi x.1,.sl 2 0 x.2.length 1]) (fun x=>[some (.row [zv d.names,zu d.nums,zn d.texts,zw d.raw] 0 2 116),some (.row [.sc (.int .i64 (du t).names),.sc (.int .i64 (du t).nums),.sc (.int .i64 (du t).texts),.sc (.int .i64 (du t).raw),.sc (.int .i64 (du t).size)] 0 2 209),some (.row (x.2.map (bt.val false)) 0 0 5)]) (fun x=>x.1<=d.nums.length/\x.2++(d.nums.drop x.1).flatMap (Es t)=y1) (fun x=>d.nums.length - x.1) (0,[]) ⟨zzb _,hy1.symm⟩ zX ?_;clear h6 kE
 all_goals
  clear hy1 hpl;rintro ⟨i,x⟩ ⟨hi,hx⟩;simp only at hi hx;simp only [↓wR,zT,simprocAttr];rw [az];refine ⟨fun h=>?_,fun h=>?_⟩
  ·obtain ⟨c,hc,aH,hlt⟩:=fi (zp h);rw [Ec _ aH] at hx;have aV:x.length+(Es t c).length<=y1.length:=by rw [<- hx];simp
   simp only [↓wR,zT,simprocAttr,h];refine ⟨zK,.inl ?_⟩
   repeat (first|simp only [↓wR,zT,simprocAttr,hc,Fh,hs,Uw]|simp (disch:=omega) only [zW])
   refine ⟨zK,?_⟩;exact ⟨(i+1,x++Es t c),⟨hlt,by rw [zzc];exact hx⟩,by simp;omega,zF,zF⟩
  rw [gz (zq h)] at hx;obtain rfl:x=y1:=by simpa using hx
  clear hx;simp only [↓wR,zT,simprocAttr,h];clear h hi;obtain ⟨y2,hy2⟩:∃ y2,y2=x++ajg t d:=⟨_,rfl⟩;have rW:y2.length<=100663296:=by rw [hy2,za];omega
  rw [<- hy2];refine i9 [0,3,12,7] (fun (x:Nat × List UInt8)=>[.sc (.int .u16 t.toNat),.ptr 0 0,zi x.1,.sl 1 0 x.2.length 1]) (fun x=>[some (.row [zv d.names,zu d.nums,zn d.texts,zw d.raw] 0 2 116),some (.row (x.2.map (bt.val false)) 0 0 5)]) (fun p=>p.1<=d.names.length/\p.2++(if (t.toNat:Int)=6 then [] else (d.names.drop p.1).flatMap n8)=y2) (fun p=>d.names.length - p.1) (0,x) ⟨zzb _,hy2.symm⟩ zX ?_;clear hy2 vQ;rintro ⟨i,z⟩ ⟨hi,hz⟩;simp only at hi hz;simp only [↓wR,zT,simprocAttr];rw [de];refine ⟨fun ⟨h7,e7⟩=>?_,fun ⟨h7,e7⟩=>?_⟩
  all_goals try exact absurd e6 e7
  all_goals try exact absurd e7 e6
  first
   |(
    rw [if_pos e7] at hz;obtain rfl:z=y2:=by simpa using hz
    simp only [↓wR,zT,simprocAttr,h7])
   |(
    rw [if_neg e7] at hz;simp only [↓wR,zT,simprocAttr,h7];rw [az];refine ⟨fun h8=>?_,fun h8=>?_⟩
    ·obtain ⟨c,hc,aH,hlt⟩:=fi (zp h8);rw [Ec _ aH] at hz;have aV:z.length+(n8 c).length<=y2.length:=by rw [<- hz];simp
     repeat (first|simp only [↓wR,zT,simprocAttr,h8,hc,u1,hd.name c (zm hc)]|simp (disch:=omega) only [zW])
     exact ⟨(i+1,z++n8 c),⟨hlt,by rw [if_neg e7,zzc];exact hz⟩,by simp;omega,zF,zF⟩
    rw [gz (zq h8)] at hz;obtain rfl:z=y2:=by simpa using hz
    simp only [↓wR,zT,simprocAttr,h8])
  clear hz hi;obtain ⟨y3,lC⟩:∃ y3,y3=z++vj t d:=⟨_,rfl⟩;have yE:y3.length<=117440512:=by rw [lC,za];omega
  rw [<- lC];refine i9 [0,3,15,7] (fun (x:Nat × List UInt8)=>[.sc (.int .u16 t.toNat),.ptr 0 0,zi x.1,.sl 1 0 x.2.length 1]) (fun x=>[some (.row [zv d.names,zu d.nums,zn d.texts,zw d.raw] 0 2 116),some (.row (x.2.map (bt.val false)) 0 0 5)]) (fun p=>p.1<=d.texts.length/\p.2++te t p.1 (d.texts.drop p.1)=y3) (fun p=>d.texts.length - p.1) (0,z) ⟨zzb _,lC.symm⟩ zX ?_;clear lC rW;rintro ⟨i,x⟩ ⟨hi,hx⟩;simp only at hi hx;simp only [↓wR,zT,simprocAttr];rw [az];refine ⟨fun h=>?_,fun h=>?_⟩
  ·obtain ⟨c,hc,aH,hlt⟩:=fi (zp h);rw [age _ aH] at hx;have aV:x.length+((if (t.toNat:Int)=16\/i=0 then [UInt8.ofNat c.size] else []).length+c.size)<=y3.length:=by rw [<- hx];simp
   have hcs:c.data.toList.length=c.size:=by simp
   have fin:∀ b:List UInt8,x++(b++c.data.toList++te t (i+1) (d.texts.drop (i+1)))=y3->x++b++c.data.toList++te t (i+1) (d.texts.drop (i+1))=y3:=fun b hb=>by rw [<- hb];simp
   repeat (first|simp only [↓wR,zT,simprocAttr,h,hc]|simp (disch:=omega) only [zW])
   rw [cp];refine ⟨fun ⟨mS,qV⟩=>?_,fun ⟨mS,qV⟩=>?_⟩
   ·rw [if_pos (.inl qV)] at hx aV;simp only [List.length_cons,List.length_nil] at aV
    repeat (first|simp only [↓wR,zT,simprocAttr,mS,hc]|simp (disch:=omega) only [zW])
    exact ⟨(i+1,x++[UInt8.ofNat c.size]++c.data.toList),⟨hlt,fin _ hx⟩,by simp;omega,zF,zF⟩
   ·repeat (first|simp only [↓wR,zT,simprocAttr,mS]|simp (disch:=omega) only [zW])
    rw [cp];refine ⟨fun ⟨h0,e0⟩=>?_,fun ⟨h0,e0⟩=>?_⟩
    ·rw [if_pos (.inr zO)] at hx aV;simp only [List.length_cons,List.length_nil] at aV
     repeat (first|simp only [↓wR,zT,simprocAttr,h0,hc]|simp (disch:=omega) only [zW])
     exact ⟨(i+1,x++[UInt8.ofNat c.size]++c.data.toList),⟨hlt,fin _ hx⟩,by simp;omega,zF,zF⟩
    ·rw [if_neg zO] at hx aV;simp only [List.length_nil] at aV
     repeat (first|simp only [↓wR,zT,simprocAttr,h0,hc]|simp (disch:=omega) only [zW])
     exact ⟨(i+1,x++c.data.toList),⟨hlt,by have:=fin _ hx;simpa using this⟩,by simp;omega,zF,zF⟩
  rw [gz (zq h)] at hx;obtain rfl:x=y3:=by simpa [te] using hx
  clear hx
  repeat (first|simp only [↓wR,zT,simprocAttr,h]|simp (disch:=omega) only [zW])
noncomputable def Mr (x:UInt16 × bp × Unit):Option AV:=if ca x.2.1/\c8 x.1 x.2.1=0 then some ((r1 (bw bt)).E true (qp x.1 x.2.1)) else none
theorem aoe (x:UInt16 × bp × Unit) (r:AV) (h:Mr x=some r):bo PP 183 ((aC ct (aC ai a0)).E x) r:=by obtain ⟨hc,rfl⟩:=zI h;exact bf (ak.cons (aq W8) (ak.cons (aq X9) (ak.cons (aq ala) (ak.nil PP)))) Tryz.func183 zK zK zK zL (r1 (bw bt)) true (qp x.1 x.2.1) (axi x.1 x.2.1 hc.1 hc.2)
noncomputable abbrev aH6:zE:=(183,true,dg (aC ct (aC ai a0)) Mr)
theorem ayc (t:UInt16):wl PP [] 0 (Tryz.f197.body.getD .skip) (di PP Tryz.f197.results.toList (fun r st=>(r1 bq).get true st.h r=some false)) (cj 0 [ct.val false t]) (ay []):=by unfold Tryz.f197;simp only [↓wR,zT,simprocAttr,bne_self_eq_false]
noncomputable def abr (x:UInt16 × Unit):Option AV:=some ((r1 bq).E true (false))
theorem apb (x:UInt16 × Unit) (r:AV) (h:abr x=some r):bo PP 197 ((aC ct a0).E x) r:=by cases h;exact bf (ak.nil PP) Tryz.func197 zK zK zK zL (r1 bq) true (false) (ayc x.1)
noncomputable abbrev aH4:zE:=(197,true,dg (aC ct a0) abr)
theorem aGj (a b:UInt16):wl PP [aH4] 0 (Tryz.f168.body.getD .skip) (di PP Tryz.f168.results.toList (fun r st=>(r1 (bh .i64)).get true st.h r=some (xy a b))) (cj 0 [ct.val false a,ct.val false b]) (ay []):=by
 unfold Tryz.f168;unfold xy;simp only [↓wR,zT,simprocAttr,abr];rw [az];refine ⟨fun h=>?_,fun h=>?_⟩
 ·rw [if_pos h];simp only [↓wR,zT,simprocAttr,h]
 ·rw [if_neg h];simp only [↓wR,zT,simprocAttr,h];rw [az];refine ⟨fun h2=>?_,fun h2=>?_⟩
  ·rw [if_pos h2];simp only [↓wR,zT,simprocAttr,h2]
  ·rw [if_neg h2];simp only [↓wR,zT,simprocAttr,h2]
noncomputable def ak2 (x:UInt16 × UInt16 × Unit):Option AV:=some ((r1 (bh .i64)).E true (xy x.1 x.2.1))
theorem atz (x:UInt16 × UInt16 × Unit) (r:AV) (h:ak2 x=some r):bo PP 168 ((aC ct (aC ct a0)).E x) r:=by cases h;exact bf (ak.cons (aq apb) (ak.nil PP)) Tryz.func168 zK zK zK zL (r1 (bh .i64)) true (xy x.1 x.2.1) (aGj x.1 x.2.1)
noncomputable abbrev aKl:zE:=(168,true,dg (aC ct (aC ct a0)) ak2)
noncomputable def Ci (a b:aw):Int:=C9 [ry a.owner b.owner,xy a.type b.type,xy a.cls b.cls]
theorem aoh (a b:aw) (ha:cw a) (hb:cw b):wl PP [V3,aD5,aKl,orC] 0 (Tryz.f164.body.getD .skip) (di PP Tryz.f164.results.toList (fun r st=>(r1 (bh .i64)).get true st.h r=some (Ci a b))) (cj 0 [aj.val false a,aj.val false b]) (ay []):=by
 have hq:∀ a b c d,eh a b c=d->eh a b c=d:=fun _ _ _ _ h=>h
 unfold Tryz.f164;simp only [ji];simp only [↓wR,zT,simprocAttr];refine ⟨zK,.inl ?_⟩;simp only [↓wR,zT,simprocAttr,xr,Yp,ak2,ab9,ha.owner,hb.owner];exact ⟨by apply hq;kernel_rfl,rfl⟩
noncomputable def pj (x:aw × aw × Unit):Option AV:=if cw x.1/\cw x.2.1 then some ((r1 (bh .i64)).E true (Ci x.1 x.2.1)) else none
theorem Qa (x:aw × aw × Unit) (r:AV) (h:pj x=some r):bo PP 164 ((aC aj (aC aj a0)).E x) r:=by obtain ⟨hc,rfl⟩:=zI h;exact bf (ak.cons (aq Js) (ak.cons (aq aaw) (ak.cons (aq atz) (ak.cons (aq am0) (ak.nil PP))))) Tryz.func164 zK zK zK zL (r1 (bh .i64)) true (Ci x.1 x.2.1) (aoh x.1 x.2.1 hc.1 hc.2)
noncomputable abbrev anl:zE:=(164,true,dg (aC aj (aC aj a0)) pj)
noncomputable def fj (a b:aw):Bool:=decide (Ci a b<0)
theorem Sj {a b:UInt16}:xy a b=0↔a.toNat=b.toNat:=by
 unfold xy;split
 ·constructor<;>intro h<;>omega
 ·split<;>constructor<;>intro h<;>omega
theorem akf {a b:UInt16}:xy a b<0↔a.toNat<b.toNat:=by
 unfold xy;split
 ·constructor<;>intro h<;>omega
 ·split<;>constructor<;>intro h<;>omega
theorem aEp {a b:aw}:Ci a b<0↔ry a.owner b.owner<0\/(gh a.owner b.owner=true/\(a.type.toNat<b.type.toNat\/(a.type.toNat=b.type.toNat/\a.cls.toNat<b.cls.toNat))):=by
 unfold Ci C9;by_cases h:ry a.owner b.owner=0
 ·rw [if_neg (fun q=>q h)];have hs:=Hg.1 h;unfold C9;by_cases h2:xy a.type b.type=0
  ·rw [if_neg (fun q=>q h2)];have h3:=Sj.1 h2;unfold C9;by_cases h4:xy a.cls b.cls=0
   ·have h5:=Sj.1 h4;rw [if_neg (fun q=>q h4)];unfold C9;constructor
    ·intro q;omega
    ·rintro (q|⟨_,q|q⟩)<;>omega
   ·rw [if_pos h4,akf];constructor
    ·intro q;exact .inr ⟨hs,.inr ⟨h3,q⟩⟩
    ·rintro (q|⟨_,q|q⟩)<;>omega
  ·rw [if_pos h2,akf];have h3:a.type.toNat≠b.type.toNat:=fun q=>h2 (Sj.2 q)
   constructor
   ·intro q;exact .inr ⟨hs,.inl q⟩
   ·rintro (q|⟨_,q|q⟩)<;>omega
 ·rw [if_pos h];constructor
  ·intro q;exact .inl q
  ·rintro (q|⟨q,_⟩)
   ·exact q
   ·exact (h (Hg.2 q)).elim
theorem aag {a b:Name} (h:gh a b=true):gh b a=true:=yd.2 (yd.1 h).symm
theorem aBc {a b c:Name} (h:gh a b=true) (k:gh b c=true):gh a c=true:=yd.2 ((yd.1 h).trans (yd.1 k))
theorem Xc (a b:Name):ry a b<0\/gh a b=true\/ry b a<0:=by
 have h:=Lo a b;by_cases h1:ry a b=0
 ·exact .inr (.inl (Hg.1 h1))
 ·omega
theorem Ud:yw fj (fun _=>True):=by
 have flip:∀ a b:aw,Ci a b<0->¬ Ci b a<0:=by
  intro a b h k;rw [aEp] at h k;have e:=Lo a.owner b.owner;rcases h with h|⟨h,h'⟩<;>rcases k with k|⟨k,k'⟩
  ·omega
  ·have:=Hg.2 k;omega
  ·have:=Hg.2 h;omega
  ·omega
 refine ⟨fun x y _ _ h=>?_,fun x y z _ _ _ h k=>?_⟩
 ·unfold fj at *;exact zq (flip x y (of_decide_eq_true h))
 ·unfold fj at *;have h:=of_decide_eq_false h;have k:=of_decide_eq_false k;refine zq fun q=>?_
  rw [aEp] at h k q;rcases q with q|⟨q,q'⟩
  ·rcases Xc x.owner y.owner with e|e|e
   ·rcases Xc y.owner z.owner with f|f|f
    ·have:=asl e f;have:=Lo z.owner x.owner;omega
    ·have:=Y3 (a:=x.owner) f;have:=Lo z.owner x.owner;omega
    ·exact k (.inl f)
   ·rw [<- Y3 (a:=z.owner) (aag e)] at q;exact k (.inl q)
   ·exact h (.inl e)
  ·rcases Xc x.owner y.owner with e|e|e
   ·have h1:ry z.owner y.owner<0:=by rw [aoa q];exact e
    exact k (.inl h1)
   ·have h1:gh z.owner y.owner=true:=aBc q e;have h2:¬ (y.type.toNat<x.type.toNat\/y.type.toNat=x.type.toNat/\y.cls.toNat<x.cls.toNat):=fun p=>h (.inr ⟨aag e,p⟩)
    have h3:¬ (z.type.toNat<y.type.toNat\/z.type.toNat=y.type.toNat/\z.cls.toNat<y.cls.toNat):=fun p=>k (.inr ⟨h1,p⟩)
    omega
   ·exact h (.inl e)
theorem sq:yw fj cw:=⟨fun x y _ _ h=>Ud.auq x y trivial trivial h,fun x y z _ _ _ h k=>Ud.trans x y z trivial trivial trivial h k⟩
theorem ak7 (a b:bp) (s:aw) (ha:ca a) (hb:ca b):wl PP [Gy] 0 (Tryz.f170.body.getD .skip) (di PP Tryz.f170.results.toList (fun r st=>(r1 (bh .i64)).get true st.h r=some (yu s.type a b))) (cj 0 [ai.val false a,ai.val false b,.ik (aj.cells false s)]) (ay []):=by
 have hq:∀ a b c d,eh a b c=d->eh a b c=d:=fun _ _ _ _ h=>h
 unfold Tryz.f170;simp only [jn];simp only [↓wR,zT,simprocAttr,ag0,pv,ha,hb]
noncomputable def ph (x:bp × bp × aw × Unit):Option AV:=if ca x.1/\ca x.2.1 then some ((r1 (bh .i64)).E true (yu x.2.2.1.type x.1 x.2.1)) else none
theorem Px (x:bp × bp × aw × Unit) (r:AV) (h:ph x=some r):bo PP 170 ((aC ai (aC ai (aP aj a0))).E x) r:=by obtain ⟨hc,rfl⟩:=zI h;exact bf (ak.cons (aq Cw) (ak.nil PP)) Tryz.func170 zK zK zK zL (r1 (bh .i64)) true (yu x.2.2.1.type x.1 x.2.1) (ak7 x.1 x.2.1 x.2.2.1 hc.1 hc.2)
noncomputable abbrev ah6:zE:=(170,true,dg (aC ai (aC ai (aP aj a0))) ph)
noncomputable def fo (t:UInt16) (a b:bp):Bool:=decide (yu t a b<0)
def vq (t:UInt16) (d:bp):Prop:=ca d/\c8 t d=0
theorem agi (s:ByteArray):jw (fold s)=jw s:=by unfold jw;rw [C8]
theorem P3 (n:Name):cg (fv n)=cg n:=by
 have h:u5 (fv n)=u5 n:=by
  unfold u5 fv;rw [List.any_map]
  congr 1
  funext s
  simp only [Function.comp,agi]
 unfold cg;rw [h,Bn]
theorem agp (l:List Name):ny (l.map fv)=ny l:=by
 induction l with
 |nil=>rfl
 |cons a l ih=>simp only [List.map_cons,ny,P3,ih]
theorem akp (n:Name) (h:cg n=0):(n8 n).length=br n:=by unfold n8;rw [if_neg zO];unfold nameBytes;rw [za,zyi,rp]
theorem Pu:∀ {l:List Name},ny l=0->∀ n ∈ l,cg n=0
 | [],_,n,h=>by cases h
 |a::l,e,n,h=>by
  rw [ny] at e
  split at e
  ·contradiction
  ·rename_i q;rcases zyb.1 h with rfl|h
   ·omega
   ·exact Pu e n h
theorem aB5 {l:List Name} (h:∀ n ∈ l,cg n=0):((l.map fv).flatMap n8).length=(l.flatMap n8).length:=by
 induction l with
 |nil=>rfl
 |cons a l ih=>
  have ha:=h a List.mem_cons_self;rw [List.map_cons,List.flatMap_cons,List.flatMap_cons,za,za,ih fun n hn=>h n (zyn _ hn),akp _ (by rw [P3];exact ha),akp _ ha,Bn]
theorem Ef {t:UInt16} {d:bp} (h:c8 t d=0):c8 t (k5 t d)=0:=by
 unfold k5
 split
 case isFalse=>exact h
 unfold c8 at h ⊢
 split at h
 ·cases h
 rename_i h1
 split at h
 ·cases h
 rename_i h2
 split at h
 ·contradiction
 rename_i h3;have h4:=Pu (Decidable.not_not.1 h3);rw [if_neg h1,if_neg (by
  unfold xo at h2 ⊢;simpa only [zzo] using h2),if_neg (by rw [agp];exact h3)]
 have h5:(qp t { d with names:=d.names.map fv }).length=(qp t d).length:=by
  unfold qp wq As vj
  split<;>simp only [za,aB5 h4]
 rw [h5];exact h
theorem He {t:UInt16} {a b:bp} (ha:c8 t a=0) (hb:c8 t b=0):yu t a b=Jq (ri t (k5 t a)) (ri t (k5 t b)):=by unfold yu;rw [if_neg (by rw [Ef ha,Ef hb];simp)]
theorem sr (t:UInt16):yw (fo t) (vq t):=by
 refine ⟨fun x y hx hy h=>?_,fun x y z hx hy hz h k=>?_⟩
 ·unfold fo at *;have h:=of_decide_eq_true h;refine zq fun q=>?_
  rw [He hx.2 hy.2] at h;rw [He hy.2 hx.2] at q;have:=N0 (ri t (k5 t x)) (ri t (k5 t y));unfold Jq at *;omega
 ·unfold fo at *;have h:=of_decide_eq_false h;have k:=of_decide_eq_false k;refine zq fun q=>?_
  rw [He hy.2 hx.2] at h;rw [He hz.2 hy.2] at k;rw [He hz.2 hx.2] at q;unfold Jq at *;have f1:=N0 (ri t (k5 t x)) (ri t (k5 t y));have f2:=N0 (ri t (k5 t y)) (ri t (k5 t z));by_cases e:Lib.compareBytes (ri t (k5 t x)) (ri t (k5 t y))=0
  ·rw [Ty _ _ e] at q;exact k q
  ·have:=W9 _ _ _ q (show Lib.compareBytes (ri t (k5 t x)) (ri t (k5 t y))<0 by omega);exact k this
noncomputable def ai7 (z:cf) (n:Name):Int:=if ox z≠0 then ox z else if cg n≠0 then cg n else if jm n z.origin=false then 2 else 0
def Az (z:cf):Name->Name
 | []=>[]
 |a::r=>if aJf z (a::r)=true then a::r else Az z r
noncomputable def as8 (z:cf) (n:Name):ahl × Int:=
 if ai7 z n≠0 then (mkP 0 [] [],ai7 z n)
 else match uu z n with
  |some c=>(mkP 4 c [],0)
  |none=>
   if 0<(atV z n).length then (mkP 1 n (Az z n),0)
   else if (Az z n).length=n.length then (mkP 2 [] (Az z n),0)
   else if aJf z (O8::Az z n)=true then (mkP 3 (O8::Az z n) (Az z n),0)
   else (mkP 0 [] (Az z n),0)
def zx (l:List aw):Prop:=dk og l<=16777216
instance (l:List aw):Decidable (zx l):=inferInstanceAs (Decidable (_<=_))
theorem zx.mem {l:List aw} (h:zx l):∀ s ∈ l,cw s:=fun s hs=>by have h1:og s<dk og l:=u3 hs;unfold zx at h;unfold cw;omega
theorem zx.len {l:List aw} (h:zx l):l.length<=16777216:=zzu (I5 og l) h
theorem dj.ar {z:cf} (h:dj z):zx z.ar:=by unfold dj wtZ at h;unfold zx;omega
def vz (l:List aw):Prop:=l.length<=281474976710656/\∀ s ∈ l,cw s
instance (l:List aw):Decidable (vz l):=inferInstanceAs (Decidable (_/\_))
theorem dj.mid {z:cf} (h:dj z):vz z.ar:=⟨zzu h.ar.len (by decide),h.ar.mem⟩
def aKs (n:Name) (t:UInt16) (s:aw):Bool:=decide ((s.type.toNat:Int)=t.toNat) && (decide ((s.cls.toNat:Int)=1) && gh s.owner n)
def aDu (l:List aw) (n:Name) (t:UInt16):Option aw:=l.find? (aKs n t)
def aHm:aw:=k6 [] 0 0 0 []
theorem kh.awc {bg:Nat} {vs vs':List AV} {os os':List (Option bk)} (hp:bg<=1000) (hV:AV.cx.go (fun o=>idx (wz bg vs os) o 0) vs=vs') (hO:ky (ay os).h (fun o=>idx (wz bg vs os) o 0) (wz bg vs os)=os'):kh bg vs os vs' os':=by subst hV hO;exact kh.canon hp
noncomputable def axs (z:cf) (n:Name) (t:UInt16):ahl × Int:=
 if (as8 z n).2=0/\((t.toNat:Int)=0\/(t.toNat:Int)=41) then (mkP 0 [] [],6) else as8 z n
theorem aum {s:aw} (h:ud s=0):∀ d ∈ s.data,c8 s.type d=0:=by
 have key:∀ (l pre:List bp),me s.type pre l=0->∀ d ∈ l,c8 s.type d=0:=by
  intro l
  induction l with
  |nil=>intro pre _ d hd;cases hd
  |cons a l ih=>
   intro pre h d hd;rw [me] at h
   split at h
   ·contradiction
   split at h
   ·cases h
   rcases zyb.1 hd with rfl|hd
   ·omega
   ·exact ih _ h d hd
 unfold ud at h
 split at h
 ·contradiction
 split at h
 ·cases h
 split at h
 ·cases h
 exact key _ _ h
def aL1 (n:Name) (s:aw):aw:=k6 n s.type s.cls s.b9 s.data
def aKp (t:UInt16) (l:List aw):asq:=
 if (t.toNat:Int)=255/\0<l.length then mkT 0 l []
 else match l.find? (fun s=>decide ((s.type.toNat:Int)=t.toNat)) with
  |some x=>mkT 0 [x] []
  |none=>match l.find? (fun s=>decide ((s.type.toNat:Int)=5) && decide ((t.toNat:Int)≠255)) with
   |some x=>mkT 1 [x] (((x.data[0]?).bind fun d=>d.names[0]?).getD [])
   |none=>mkT 2 [] []
noncomputable def aKz (z:cf) (n:Name) (t:UInt16) (s:ahl):asq:=
 if s.kind=4 then mkT 4 [(aDu z.ar s.node 2).getD aHm] []
 else if s.kind=0 then mkT 3 [] []
 else if s.kind=2 then mkT 2 [] []
 else aKp t (if s.kind=3 then (atV z s.node).map (aL1 n) else atV z s.node)
end Go.Proofs.YtjagjbceegbaiaaGreat
end
section
namespace Go.Vm
variable [TK]
noncomputable section
def amj (a b:AV) (e:M AV):M AV:=
 match a,b with
 |.sc (.int k x),.sc (.int _ y)=>.pure (.sc (.int k (if y<x then y else x)))
 |_,_=>e
def aio (a b:AV) (e:M AV):M AV:=
 match a,b with
 |.sc (.int k x),.sc (.int _ y)=>.pure (.sc (.int k (if y > x then y else x)))
 |_,_=>e
theorem aAi (k k' x y e):amj (.sc (.int k x)) (.sc (.int k' y)) e = .pure (.sc (.int k (if y<x then y else x))):=id rfl
theorem axu (k k' x y e):aio (.sc (.int k x)) (.sc (.int k' y)) e = .pure (.sc (.int k (if y > x then y else x))):=id rfl
theorem at0 (P:Program) (ρ:Operand->AV) (d ty pos af gd) (x y:Operand) (ts):mo P ρ ⟨d,.call { callee:=.builtin .min,args:=#[x,y],argTypes:=ts },ty,pos,af,gd⟩ [x,y]=amj (ρ x) (ρ y) (C3 P ρ ⟨d,.call { callee:=.builtin .min,args:=#[x,y],argTypes:=ts },ty,pos,af,gd⟩ [x,y]):=by
 unfold amj
 split
 ·rename_i k a k' b hx hy;have h2:execOp (fun z=>((ρ z).jr).getD undef) ⟨d,.call { callee:=.builtin .min,args:=#[x,y],argTypes:=ts },ty,pos,af,gd⟩=(do pure (Next.value (<- Builtin.min_ ts ty #[.int k a,.int k' b]))):=by
   simp [execOp,resolve,invoke,builtin,hx,hy,AV.jr]
  have h3:ev P (Builtin.min_ ts ty #[.int k a,.int k' b])=some (.int k (if b<a then b else a)):=by simp [Builtin.min_,Builtin.min2,ev];rfl
  unfold mo oc vu;simp [hx,hy,AV.jr];rw [h2,Nh,h3];rfl
 ·rfl
theorem avi (P:Program) (ρ:Operand->AV) (d ty pos af gd) (x y:Operand) (ts):mo P ρ ⟨d,.call { callee:=.builtin .max,args:=#[x,y],argTypes:=ts },ty,pos,af,gd⟩ [x,y]=aio (ρ x) (ρ y) (C3 P ρ ⟨d,.call { callee:=.builtin .max,args:=#[x,y],argTypes:=ts },ty,pos,af,gd⟩ [x,y]):=by
 unfold aio
 split
 ·rename_i k a k' b hx hy;have h2:execOp (fun z=>((ρ z).jr).getD undef) ⟨d,.call { callee:=.builtin .max,args:=#[x,y],argTypes:=ts },ty,pos,af,gd⟩=(do pure (Next.value (<- Builtin.max_ ts ty #[.int k a,.int k' b]))):=by
   simp [execOp,resolve,invoke,builtin,hx,hy,AV.jr]
  have h3:ev P (Builtin.max_ ts ty #[.int k a,.int k' b])=some (.int k (if b > a then b else a)):=by simp [Builtin.max_,Builtin.max2,ev];rfl
  unfold mo oc vu;simp [hx,hy,AV.jr];rw [h2,Nh,h3];rfl
 ·rfl
theorem Ts (P:Program) (T:fp) (ρ:Operand->AV) (d ty pos af gd) (s x ts):il P T ⟨d,.call { callee:=.builtin .min,args:=#[s,x],argTypes:=ts },ty,pos,af,gd⟩ ρ=mono (amj (ρ s) (ρ x) (C3 P ρ ⟨d,.call { callee:=.builtin .min,args:=#[s,x],argTypes:=ts },ty,pos,af,gd⟩ [s,x])):=by rw [<- at0];rfl
theorem aqm {P:Program} {T:fp} {d ty pos af gd recs K L st} (s x ts):iy P T ⟨d,.call { callee:=.builtin .min,args:=#[s,x],argTypes:=ts },ty,pos,af,gd⟩ recs K L st=gv (true) (reach st.h gu (AV.names.go ([s,x].map (eu L))) []) ⟨d,.call { callee:=.builtin .min,args:=#[s,x],argTypes:=ts },ty,pos,af,gd⟩ recs K L st (mono (amj (eu L s) (eu L x) (C3 P (eg ⟨d,.call { callee:=.builtin .min,args:=#[s,x],argTypes:=ts },ty,pos,af,gd⟩ L) ⟨d,.call { callee:=.builtin .min,args:=#[s,x],argTypes:=ts },ty,pos,af,gd⟩ [s,x]))):=by
 unfold iy mq n7 gv;simp only [kp,cond_false];have hm:∀ y,y ∈ ([s,x]:List Operand)->eg ⟨d,.call { callee:=.builtin .min,args:=#[s,x],argTypes:=ts },ty,pos,af,gd⟩ L y=eu L y:=fun y hy=>ga (by simpa [Op.operands,Call.operands] using hy)
 have hmap:([s,x]:List Operand).map (eg ⟨d,.call { callee:=.builtin .min,args:=#[s,x],argTypes:=ts },ty,pos,af,gd⟩ L)=([s,x]:List Operand).map (eu L):=jj (fun y hy=>by simpa [Op.operands,Call.operands] using hy);have ho:(⟨d,.call { callee:=.builtin .min,args:=#[s,x],argTypes:=ts },ty,pos,af,gd⟩:Oper).op.operands.toList=[s,x]:=by simp [Op.operands,Call.operands]
 rw [ho,hmap];rw [Ts,hm s (by simp),hm x (by simp)];rfl
theorem Se (P:Program) (T:fp) (ρ:Operand->AV) (d ty pos af gd) (s x ts):il P T ⟨d,.call { callee:=.builtin .max,args:=#[s,x],argTypes:=ts },ty,pos,af,gd⟩ ρ=mono (aio (ρ s) (ρ x) (C3 P ρ ⟨d,.call { callee:=.builtin .max,args:=#[s,x],argTypes:=ts },ty,pos,af,gd⟩ [s,x])):=by rw [<- avi];rfl
theorem ap2 {P:Program} {T:fp} {d ty pos af gd recs K L st} (s x ts):iy P T ⟨d,.call { callee:=.builtin .max,args:=#[s,x],argTypes:=ts },ty,pos,af,gd⟩ recs K L st=gv (true) (reach st.h gu (AV.names.go ([s,x].map (eu L))) []) ⟨d,.call { callee:=.builtin .max,args:=#[s,x],argTypes:=ts },ty,pos,af,gd⟩ recs K L st (mono (aio (eu L s) (eu L x) (C3 P (eg ⟨d,.call { callee:=.builtin .max,args:=#[s,x],argTypes:=ts },ty,pos,af,gd⟩ L) ⟨d,.call { callee:=.builtin .max,args:=#[s,x],argTypes:=ts },ty,pos,af,gd⟩ [s,x]))):=by
 unfold iy mq n7 gv;simp only [kp,cond_false];have hm:∀ y,y ∈ ([s,x]:List Operand)->eg ⟨d,.call { callee:=.builtin .max,args:=#[s,x],argTypes:=ts },ty,pos,af,gd⟩ L y=eu L y:=fun y hy=>ga (by simpa [Op.operands,Call.operands] using hy)
 have hmap:([s,x]:List Operand).map (eg ⟨d,.call { callee:=.builtin .max,args:=#[s,x],argTypes:=ts },ty,pos,af,gd⟩ L)=([s,x]:List Operand).map (eu L):=jj (fun y hy=>by simpa [Op.operands,Call.operands] using hy);have ho:(⟨d,.call { callee:=.builtin .max,args:=#[s,x],argTypes:=ts },ty,pos,af,gd⟩:Oper).op.operands.toList=[s,x]:=by simp [Op.operands,Call.operands]
 rw [ho,hmap];rw [Se,hm s (by simp),hm x (by simp)];rfl
theorem Ql:type_of% @aAi/\type_of% @axu/\type_of% @Ts/\type_of% @Se/\type_of% @aqm/\type_of% @ap2:=
 ⟨@aAi,@axu,@Ts,@Se,@aqm,@ap2⟩
end
end Go.Vm
end
section
namespace Go.Proofs.YtjagjbceegbaiaaGreat
open Go.Vm
def aLs (a b:UInt32):UInt32:=if (a.toNat:Int)<=b.toNat then a else b
def aqk (z:cf):aw:=
 let s:=(aDu z.ar z.origin 6).getD aHm
 k6 s.owner s.type s.cls (aLs s.b9 (((s.data[0]?).bind fun d=>d.nums[4]?).getD 0)) s.data
def aJz (n:Name) (s:aw):Bool:=(decide ((s.type.toNat:Int)=1) || decide ((s.type.toNat:Int)=28)) && gh s.owner n
def aEm (z:cf):List Name->List Name->List aw
 |_,[]=>[]
 |pre,n::r=>(if pre.any (fun m=>gh m n)=true then [] else z.ar.filter (aJz n))++aEm z (pre++[n]) r
def aK3 (z:cf) (l:List Name):List aw:=aEm z [] l
def aGg (l:List Name):Prop:=dk br l<=16777216
instance (l:List Name):Decidable (aGg l):=inferInstanceAs (Decidable (_<=_))
def aK9 (s:aw):Bool:=decide ((s.type.toNat:Int)=2) || (decide ((s.type.toNat:Int)=15) || decide ((s.type.toNat:Int)=33))
def ayg (l:List bp):List Name:=l.flatMap fun d=>d.names
def aCm (s:aw):List Name:=if aK9 s=true then ayg s.data else []
def aGh (l:List aw):List Name:=l.flatMap aCm
def aK1 (eW:List aw) (s:aw):Bool:=eW.any fun x=>decide ((x.type.toNat:Int)=s.type.toNat) && gh x.owner s.owner
def aDt (z:cf) (eW l:List aw):List aw:=(aK3 z (aGh l)).filter fun s=>!aK1 eW s
def aL0 (l:List Name) (n:Name):Bool:=l.any fun m=>gh m n
noncomputable def ax5 (z:cf) (t:UInt16):Nat->Name->List Name->List aw->Sp
 |0,_,_,eW=>mkY 0 true eW [] []
 |k+1,n,seen,eW=>
  let x:=aKz z n t (as8 z n).1
  if x.turn=0 then mkY 0 true (eW++x.ar) [] (aDt z (eW++x.ar) x.ar)
  else if x.turn=3 then mkY 3 true eW [aqk z] []
  else if x.turn=2 then mkY 0 true eW [aqk z] []
  else if x.turn=4 then mkY 0 (decide (0<eW.length)) eW x.ar (aDt z eW x.ar)
  else if jm x.to z.origin=false then mkY 0 true (eW++x.ar) [] []
  else if aL0 (seen++[n]) x.to=true then mkY 0 true (eW++x.ar) [] []
  else ax5 z t k x.to (seen++[n]) (eW++x.ar)
noncomputable def ofV (z:cf) (n:Name) (t:UInt16):Sp × Int:=
 if (axs z n t).2≠0 then (mkY 0 false [] [] [],(axs z n t).2) else (ax5 z t 16 n [] [],0)
theorem ay8 (a:List UInt8):Jq a a=0:=by
 unfold Jq
 induction a with
 |nil=>rfl
 |cons a r ih=>rw [Lib.compareBytes,if_neg (UInt8.lt_irrefl a),if_neg (UInt8.lt_irrefl a)];exact ih
theorem aax {t:UInt16} {d:bp} (h:c8 t d=0):Av t d d=true:=by unfold Av yu;rw [zp h,Bool.and_self,Bool.true_and,ay8,ite_self];rfl
def wtW (w:ale):Nat:=dk wtZ w.avp+(dk (fun h:aD7=>h.avp.length) w.aKa+w.hints.length)
def aJk (w:ale):Prop:=wtW w<=5242880
instance (w:ale):Decidable (aJk w):=inferInstanceAs (Decidable (_<=_))
end Go.Proofs.YtjagjbceegbaiaaGreat
end
