/- A piece of the proof of the law AnswerSteps: lemmas. No condition. -/
import Derived.Test.YtgencolcibpcaaaGreatProg
import Derived.Test.YtgencolcibpcaaaGreatRows
import Derived.Test.YtgencolcibpcaaaGreatQ0
set_option linter.unusedSimpArgs false
set_option linter.unusedVariables false
set_option linter.unusedSectionVars false
set_option maxRecDepth 2000000
namespace Go.Vm
variable [TK]
theorem aBl {α β:Type} {P:Program}:∀ (s:Sem α) (f : α->Sem β),ev P (s.bind f)=(ev P s).bind fun a=>ev P (f a):=by
 intro s f
 induction s with
 |pure a=>simp [Sem.bind,ev]
 |program k ih=>simp only [Sem.bind,ev];exact ih P
 |choose q k ih=>
  simp only [Sem.bind,ev]
  split
  ·exact ih 0
  ·rfl
 |mark m k ih=>simp only [Sem.bind,ev];exact ih
 |_=>simp [Sem.bind,ev]
theorem Dn {α β:Type} {P:Program} (s:Sem α) (f : α->Sem β):ev P (s >>= f)=(ev P s).bind fun a=>ev P (f a):=aBl s f
theorem Fx {α:Type} {P:Program} (a : α):ev P (pure a:Sem α)=some a:=rfl
theorem ahe (kind:TypeDesc) (k:Value):∀ (l1 l2:List MapEntry) (i:Nat),l1.map (·.key)=l2.map (·.key) ->
 ∀ r,Instr.findNow kind k l1 i=some r->(r=none/\Instr.findNow kind k l2 i=some none)\/∃ j v m,r=some (i+j,v)/\l2[j]? = some m/\Instr.findNow kind k l2 i=some (some (i+j,m.val)):=by
 intro l1
 induction l1 with
 |nil=>
  intro l2 i hk r h;cases l2 with
  |cons=>simp at hk
  |nil=>simp [Instr.findNow] at h ⊢;exact h.symm
 |cons e l1 ih=>
  intro l2 i hk r h;cases l2 with
  |nil=>simp at hk
  |cons e2 l2=>
  simp only [List.map_cons,List.cons.injEq] at hk;obtain ⟨kD,hk2⟩:=hk;simp only [Instr.findNow] at h ⊢;rw [<- kD];cases hs:Instr.sameNow kind k e.key with
  |none=>simp [hs] at h
  |some q=>
  cases q with
  |true=>
   simp [hs] at h;subst h;exact .inr ⟨0,e.val,e2,rfl,rfl,rfl⟩
  |false=>
   simp only [hs] at h;rcases ih l2 (i+1) hk2 r h with ⟨h1,h2⟩|⟨j,v,m,h1,h2,h3⟩
   ·exact .inl ⟨h1,h2⟩
   ·exact .inr ⟨j+1,v,m,by rw [h1];congr 2;omega,by simpa using h2,by rw [show i+(j+1)=i+1+j from by omega];exact h3⟩
theorem Ve {P:Program} (kt:TypeId) (k:Value) (w:World):∀ (l1 l2:List MapEntry) (i:Nat),l1.map (·.key)=l2.map (·.key) ->
 ∀ r,ev P (Instr.findAsking kt k l1 i)=some r->(r=none/\(Instr.findAsking kt k l2 i).run P w = .ok none w)\/∃ j v m,r=some (i+j,v)/\l2[j]? = some m/\(Instr.findAsking kt k l2 i).run P w = .ok (some (i+j,m.val)) w:=by
 intro l1
 induction l1 with
 |nil=>
  intro l2 i hk r h;cases l2 with
  |cons=>simp at hk
  |nil=>simp [Instr.findAsking,Fx] at h ⊢;exact h.symm
 |cons e l1 ih=>
  intro l2 i hk r h;cases l2 with
  |nil=>simp at hk
  |cons e2 l2=>
  simp only [List.map_cons,List.cons.injEq] at hk;obtain ⟨kD,hk2⟩:=hk;simp only [Instr.findAsking,Dn] at h ⊢;cases hq:ev P (Op.equal kt k e.key) with
  |none=>simp [hq] at h
  |some q=>
  have hrun:=D3 _ _ w hq;rw [kD] at hrun;rw [hq] at h;cases q with
  |true=>
   simp [Fx] at h;subst h;exact .inr ⟨0,e.val,e2,rfl,rfl,by simp [hrun]⟩
  |false=>
   simp at h;rcases ih l2 (i+1) hk2 r h with ⟨h1,h2⟩|⟨j,v,m,h1,h2,h3⟩
   ·exact .inl ⟨h1,by simp [hrun,h2]⟩
   ·exact .inr ⟨j+1,v,m,by rw [h1];congr 2;omega,by simpa using h2,by rw [show i+(j+1)=i+1+j from by omega];simp [hrun,h3]⟩
theorem ac6 {P:Program} {t:TypeId} {d:TypeDesc} (h:ev P (underlying t)=some d):P.underlying t=some d:=by
 have h1:=D3 (P:=P) _ _ (default:World) h;cases hu:P.underlying t with
 |some d'=>rw [run_underlying hu] at h1;cases h1;rfl
 |none=>
  exfalso;have:∀ w,(underlying t).run P w ≠ .ok d w:=by intro w;simp only [underlying,Sem.run_bind];simp [program,Sem.run,hu,stuck]
  exact this _ h1
theorem akb {P:Program} {g:Gh} {w:World} {kt:TypeId} {k:Value} {es:List (Value × AV)} {ms:Array MapEntry} (hlen:ms.size=es.length)
 (eF:∀ (i:Nat) e m,es[i]? = some e->ms[i]? = some m->m.key=e.1/\Rel g w e.2 m.val) {r:Option Nat} (h:(ev P (Instr.findKey kt k (u6 es))).map (fun r=>r.map (·.1))=some r) :
 (r=none/\(Instr.findKey kt k ms.toList).run P w = .ok none w)\/∃ i e m,r=some i/\es[i]? = some e/\ms[i]? = some m/\(Instr.findKey kt k ms.toList).run P w = .ok (some (i,m.val)) w:=by
 unfold u6 at h;have fH:(es.map fun e=>({ key:=e.1,val:=undef,born:=0 }:MapEntry)).map (·.key)=ms.toList.map (·.key):=by
  apply List.ext_getElem?;intro i;simp only [List.map_map,zzj,zz2];by_cases hi:i<es.length
  ·have e1:=zh hi;have e2:=zz3 (xs:=ms) (i:=i) zO;rw [e1,e2];simp only [Option.map_some,Function.comp_apply];rw [(eF i _ _ e1 e2).1]
  ·rw [zzy zO,Array.getElem?_eq_none zO];rfl
 have conv:∀ (j:Nat) (m:MapEntry),ms.toList[j]? = some m->∃ e,es[j]? = some e/\ms[j]? = some m:=by
  intro j m hm;rw [zz2] at hm;have hj:j<es.length:=by rw [<- hlen];exact (zz1.1 hm).1
  exact ⟨es[j],zh hj,hm⟩
 simp only [zzk] at h;obtain ⟨r0,h1,rfl⟩:=h;unfold Instr.findKey at h1;rw [Dn] at h1;cases hu:ev P (underlying kt) with
 |none=>simp [hu] at h1
 |some d=>
 have bD:=ac6 hu;rw [hu] at h1;simp only [Option.bind_some] at h1;cases hf:Instr.findNow d k (es.map fun e=>({ key:=e.1,val:=undef,born:=0 }:MapEntry)) 0 with
 |some r1=>
  rw [hf] at h1;simp [Fx] at h1;subst h1;rcases ahe d k _ _ 0 fH r1 hf with ⟨rfl,h3⟩|⟨j,v,m,rfl,h3,h4⟩
  ·exact .inl ⟨rfl,by simp [Instr.findKey,run_underlying bD,h3]⟩
  ·obtain ⟨e,e1,e2⟩:=conv j m h3;exact .inr ⟨j,e,m,by simp,e1,e2,by simp [Instr.findKey,run_underlying bD,h4]⟩
 |none=>
  have hf2:Instr.findNow d k ms.toList 0=none:=by
   have key:∀ (l1 l2:List MapEntry) (i:Nat),l1.map (·.key)=l2.map (·.key)->Instr.findNow d k l1 i=none->Instr.findNow d k l2 i=none:=by
    intro l1
    induction l1 with
    |nil=>intro l2 i hk h;simp [Instr.findNow] at h
    |cons a l1 ih=>
     intro l2 i hk h;cases l2 with
     |nil=>simp at hk
     |cons b l2=>
     simp only [List.map_cons,List.cons.injEq] at hk;simp only [Instr.findNow] at h ⊢;rw [<- hk.1];cases hs:Instr.sameNow d k a.key with
     |none=>rfl
     |some q=>
      cases q with
      |true=>simp [hs] at h
      |false=>simp only [hs] at h ⊢;exact ih l2 (i+1) hk.2 h
   exact key _ _ 0 fH hf
  rw [hf] at h1;simp only at h1;rcases Ve kt k w _ _ 0 fH r0 h1 with ⟨rfl,h3⟩|⟨j,v,m,rfl,h3,h4⟩
  ·exact .inl ⟨rfl,by simp [Instr.findKey,run_underlying bD,hf2,h3]⟩
  ·obtain ⟨e,e1,e2⟩:=conv j m h3;exact .inr ⟨j,e,m,by simp,e1,e2,by simp [Instr.findKey,run_underlying bD,hf2,h4]⟩
theorem Dx (d:TypeDesc) (k:Value):∀ (L:List MapEntry) (i:Nat),(∀ m ∈ L,(Instr.sameNow d k m.key).isSome=true) ->
 (Instr.findNow d k L i=some none/\∀ m ∈ L,Instr.sameNow d k m.key=some false)\/∃ j m,L[j]? = some m/\Instr.sameNow d k m.key=some true/\Instr.findNow d k L i=some (some (i+j,m.val))
 | [],i,_=>.inl ⟨rfl,fun m hm=>by cases hm⟩
 |e::L,i,h=>by
  have h0:=h e (by simp);cases hs:Instr.sameNow d k e.key with
  |none=>rw [hs] at h0;cases h0
  |some q=>
   cases q with
   |true=>exact .inr ⟨0,e,rfl,hs,by simp [Instr.findNow,hs]⟩
   |false=>
    rcases Dx d k L (i+1) (fun m hm=>h m (by simp [hm])) with ⟨h1,h2⟩|⟨j,m,h1,h2,h3⟩
    ·refine .inl ⟨by simp [Instr.findNow,hs,h1],fun m hm=>?_⟩;rcases zya.1 hm with rfl|hm
     ·exact hs
     ·exact h2 m hm
    ·exact .inr ⟨j+1,m,by simpa using h1,h2,by simp only [Instr.findNow,hs];rw [h3,show i+1+j=i+(j+1) from by omega]⟩
theorem D8 (a b:ByteArray):(a == b)=true↔a=b:=by obtain ⟨x⟩:=a;obtain ⟨y⟩:=b;show (x == y)=true↔_;simp
theorem B8 {d:TypeDesc} {k a:Value} {q:Bool} (h:Instr.sameNow d k a=some q) :
 (∃ kd k0 n m,d = .int kd/\k = .int k0 n/\a = .int k0 m/\q=(n == m))\/(∃ s t,d = .string/\k = .string s/\a = .string t/\q=(s == t))\/(∃ x y,d = .bool/\k = .bool x/\a = .bool y/\q=(x == y)):=by
 unfold Instr.sameNow at h
 split at h
 ·split at h
  ·rename_i e;subst e;simp only [Option.some.injEq] at h;exact .inl ⟨_,_,_,_,rfl,rfl,rfl,h.symm⟩
  ·cases h
 ·simp only [Option.some.injEq] at h;exact .inr (.inl ⟨_,_,rfl,rfl,rfl,h.symm⟩)
 ·simp only [Option.some.injEq] at h;exact .inr (.inr ⟨_,_,rfl,rfl,rfl,h.symm⟩)
 ·cases h
theorem ali {d:TypeDesc} {k a b:Value} (ha:Instr.sameNow d k a=some true) (hb:Instr.sameNow d k b=some true):vh a b=false:=by
 rcases B8 ha with ⟨kd,k0,n,m,rfl,rfl,rfl,e⟩|⟨s,t,rfl,rfl,rfl,e⟩|⟨x,y,rfl,rfl,rfl,e⟩
 ·rcases B8 hb with ⟨vT,vU,n',m',_,e2,rfl,e3⟩|⟨s,t,e2,_⟩|⟨x,y,e2,_⟩
  ·cases e2;have e4:=eq_of_beq e.symm;have e5:=eq_of_beq e3.symm;subst e4 e5;simp [vh]
  ·cases e2
  ·cases e2
 ·rcases B8 hb with ⟨vT,vU,n',m',e2,_⟩|⟨s',t',_,e2,rfl,e3⟩|⟨x,y,e2,_⟩
  ·cases e2
  ·cases e2;have e4:=(D8 _ _).1 e.symm;have e5:=(D8 _ _).1 e3.symm;subst e4 e5;have:(s == s)=true:=(D8 _ _).2 rfl;simp [vh,this]
  ·cases e2
 ·rfl
theorem aei {d:TypeDesc} {k a b:Value} (h:vh a b=true) (ha:(Instr.sameNow d k a).isSome=true):(Instr.sameNow d k b).isSome=true:=by
 obtain ⟨q,hq⟩:=zzv.1 ha;rcases B8 hq with ⟨kd,k0,n,m,rfl,rfl,rfl,e⟩|⟨s,t,rfl,rfl,rfl,e⟩|⟨x,y,rfl,rfl,rfl,e⟩
 ·cases b<;>first|(cases h;done)|skip
  rename_i k1 n1;simp only [vh,zzh,decide_eq_true_eq] at h;obtain ⟨rfl,_⟩:=h;simp [Instr.sameNow]
 ·cases b<;>first|(cases h;done)|rfl
 ·cases h
theorem ake (a b:Value):vh a b=vh b a:=by
 cases a<;>cases b<;>first|rfl|skip
 ·rename_i k n k' m;simp only [vh];by_cases h1:k=k'
  ·subst h1;have:(n == m)=(m == n):=zyb.2 ⟨fun h=>beq_iff_eq.2 (eq_of_beq h).symm,fun h=>beq_iff_eq.2 (eq_of_beq h).symm⟩;simp [this]
  ·simp [h1,Ne.symm h1]
 ·rename_i s t;simp only [vh];have:(s == t)=(t == s):=zyb.2 (by rw [D8,D8];exact eq_comm);rw [this]
theorem N4:∀ {es:List (Value × AV)},Et es=true->∀ {i j:Nat} {e e':Value × AV},i<j->es[i]? = some e->es[j]? = some e'->vh e.1 e'.1=true
 | [],_,i,j,e,e',_,h,_=>by simp at h
 |a::r,h,i,j,e,e',dI,hi,hj=>by
  simp only [Et,zzh,zz8] at h;obtain ⟨j,rfl⟩:∃ q,j=q+1:=⟨j - 1,zO⟩;cases i with
  |zero=>
   simp at hi;subst hi;exact h.1 e' (zm (by rw [List.getElem?_cons_succ] at hj;exact hj))
  |succ i=>
   rw [List.getElem?_cons_succ] at hi hj;exact N4 h.2 zO hi hj
theorem Xj {es:List (Value × AV)} (h:Et es=true) {i j:Nat} {e e':Value × AV} (dI:i≠j) (hi:es[i]? = some e) (hj:es[j]? = some e'):vh e.1 e'.1=true:=by
 rcases Nat.lt_or_gt_of_ne dI with q|q
 ·exact N4 h q hi hj
 ·rw [ake];exact N4 h q hj hi
def aF3 (P:Program) (g:Gh) (w:World) (kt:TypeId) (k:Value) (es:List (Value × AV)) (ms:Array MapEntry) (r:Option Nat):Prop:=
 (r=none/\(Instr.findKey kt k ms.toList).run P w = .ok none w) \/
 ∃ i j e m l,r=some i/\es[i]? = some e/\ms[j]? = some m/\(Instr.findKey kt k ms.toList).run P w = .ok (some (j,m.val)) w/\l.Perm ms.toList/\l[i]? = some m /\
  (∀ (i:Nat) e m,es[i]? = some e->l[i]? = some m->m.key=e.1/\Rel g w e.2 m.val)/\(l=ms.toList/\i=j\/loose es=true)
theorem Cr {P:Program} {g:Gh} {w:World} {kt:TypeId} {k:Value} {es:List (Value × AV)} {ms:Array MapEntry} {c:Nat} (hm:s8 g w es ms c) {r:Option Nat} (h:wb P kt k es=some r):aF3 P g w kt k es ms r:=by
 unfold wb at h;cases hlo:loose es with
 |false=>
  rw [hlo] at h;rcases akb hm.len (hm.exact hlo) h with h1|⟨i,e,m,h1,h2,h3,h4⟩
  ·exact .inl h1
  ·exact .inr ⟨i,i,e,m,ms.toList,h1,h2,h3,h4,.refl _,by simpa using h3,fun i e m he dS=>hm.exact hlo i e m he (by simpa using dS),.inl ⟨rfl,rfl⟩⟩
 |true=>
  rw [hlo] at h;cases hn:ap3 P kt k es with
  |false=>rw [hn] at h;cases h
  |true=>
  rw [hn] at h;simp only [Bool.not_true,Bool.or_true,cond_true] at h;unfold ap3 at hn;cases hu:P.underlying kt with
  |none=>rw [hu] at hn;cases hn
  |some d=>
  rw [hu] at hn;simp only at hn;have rE:ev P (underlying kt)=some d:=by simp [underlying,program,ev,hu,Dn,Fx,Sem.bind,bind]
  have rF:ev P (Instr.findKey kt k (u6 es))=Instr.findNow d k (u6 es) 0:=by
   unfold Instr.findKey;rw [Dn,rE];simp only [Option.bind_some];cases hq:Instr.findNow d k (u6 es) 0 with
   |none=>rw [hq] at hn;cases hn
   |some q=>rfl
  rw [rF] at h;unfold loose at hlo;simp only [zzh] at hlo;obtain ⟨dT,hap⟩:=hlo;have dT:=zB dT;obtain ⟨l,p1,p2,p3⟩:=hm.perm;have dB:l.length=es.length:=by rw [p1.length_eq,<- hm.len];simp
  have dH:∀ (i:Nat) m,(u6 es)[i]? = some m->∃ e,es[i]? = some e/\m.key=e.1:=fun i m hi=>by simp only [u6,zzj,zzk] at hi;obtain ⟨e,h1,rfl⟩:=hi;exact ⟨e,h1,rfl⟩
  have hes:∀ (i:Nat) e,es[i]? = some e->(Instr.sameNow d k e.1).isSome=true:=by
   obtain ⟨e0,r0,rfl⟩:∃ e0 r0,es=e0::r0:=by
    cases es with
    |nil=>simp at dT
    |cons a r=>exact ⟨a,r,rfl⟩
   have h0:(Instr.sameNow d k e0.1).isSome=true:=by
    simp only [u6,List.map_cons,Instr.findNow] at hn;cases hq:Instr.sameNow d k e0.1 with
    |none=>rw [hq] at hn;cases hn
    |some q=>rfl
   intro i e hi;cases i with
   |zero=>simp at hi;subst hi;exact h0
   |succ i=>exact aei (Xj hap (i:=0) (j:=i+1) zO rfl hi) h0
  have hmem:∀ m ∈ ms.toList,∃ (i:Nat) (e:Value × AV),l[i]? = some m/\es[i]? = some e/\m.key=e.1:=fun m hmm=>by
   obtain ⟨i,hi⟩:=List.mem_iff_getElem?.1 (p1.mem_iff.2 hmm);have bO:i<es.length:=by rw [<- dB];exact (zg.1 hi).1
   exact ⟨i,es[i],hi,zh bO,(p2 i _ m (zh bO) hi).1⟩
  have iO:∀ m ∈ ms.toList,(Instr.sameNow d k m.key).isSome=true:=fun m hmm=>by obtain ⟨i,e,_,h2,h3⟩:=hmem m hmm;rw [h3];exact hes i e h2
  have tM:∀ m ∈ u6 es,(Instr.sameNow d k m.key).isSome=true:=fun m hmm=>by obtain ⟨i,hi⟩:=List.mem_iff_getElem?.1 hmm;obtain ⟨e,h1,h2⟩:=dH i m hi;rw [h2];exact hes i e h1
  have hrun:∀ r,Instr.findNow d k ms.toList 0=some r->(Instr.findKey kt k ms.toList).run P w = .ok r w:=fun r hr=>by simp [Instr.findKey,run_underlying hu,hr]
  rcases Dx d k ms.toList 0 iO with ⟨a1,a2⟩|⟨j,m,a1,a2,a3⟩
  ·rcases Dx d k (u6 es) 0 tM with ⟨b1,b2⟩|⟨i,m,b1,b2,b3⟩
   ·rw [b1] at h;simp at h;exact .inl ⟨h.symm,hrun _ a1⟩
   ·exfalso;obtain ⟨e,c1,c2⟩:=dH i m b1;have bO:i<l.length:=by rw [dB];exact (zg.1 c1).1
    have hl:=zh bO;have:=(p2 i e _ c1 hl).1;have hf:=a2 l[i] (p1.mem_iff.1 (zm hl));rw [this,<- c2,b2] at hf;cases hf
  ·obtain ⟨i,e,c1,c2,c3⟩:=hmem m (zm a1);rcases Dx d k (u6 es) 0 tM with ⟨b1,b2⟩|⟨i',m',b1,b2,b3⟩
   ·exfalso;have hk:(u6 es)[i]? = some { key:=e.1,val:=undef,born:=0 }:=by simp [u6,c2]
    have:=b2 _ (zm hk);simp only at this;rw [<- c3,a2] at this;cases this
   ·obtain ⟨e',d1,d2⟩:=dH i' m' b1;have qW:i'=i:=by
     rcases Nat.decEq i' i with hne|he
     ·have h5:=Xj hap hne d1 c2;rw [<- d2,<- c3,ali b2 a2] at h5;cases h5
     ·exact he
    subst qW;rw [b3] at h;simp at h;refine .inr ⟨i',j,e,m,l,h.symm,c2,by simpa using a1,hrun _ (by simpa using a3),p1,c1,p2,.inr ?_⟩;unfold loose;rw [Nat.ble_eq_true_of_le dT,hap];rfl
theorem aoa {α:Type} {l k:List α} (h:l.Perm k) (hl:l.length<=1):l=k:=by
 match l,hl with
 | [],_=>exact (h.symm.eq_nil).symm
 | [a],_=>exact (List.perm_singleton.1 h.symm).symm
theorem K9 {es es':List (Value × AV)} {l l' k k':List MapEntry} (hx:l=k->l'=k') (hm:l=k\/loose es=true) (hs:stays es es'=true) (hp:l'.Perm k') (hlen:l'.length=es'.length):l'=k'\/loose es'=true:=by
 rcases hm with hm|hm
 ·exact .inl (hx hm)
 ·unfold stays at hs;rw [hm] at hs;simp only [Bool.not_true,Bool.false_or,Bool.or_eq_true] at hs;rcases hs with hs|hs
  ·exact .inr hs
  ·exact .inl (aoa hp (by rw [hlen];exact zB hs))
theorem aDw {P:Program} {w:World} {b:Nat} {ms:Array MapEntry} {c:Nat} (o:Obj) (h:w.heap[b]? = some (.map ms c)):(setObj b o).run P w = .ok () (g7 w b o):=by simp [setObj,Sem.run,h,g7]
theorem Qd {P:Program} {g:Gh} {st s1 aA:St} {w:World} {o b base:Nat} {es es':List (Value × AV)} {ms ms':Array MapEntry} {c c':Nat} {u:Unit}
 (aB:Ok g st.h w) (ho:st.h.get o=some (.map es)) (hi:g.inj o=some (b,base)) (hb0:base=0) (hm:w.heap[b]? = some (.map ms c)) (hrel:s8 g w es' ms' c')
 (hs1:s1.h=st.h/\s1.nx=st.nx) (h:sf o (.map es') s1=some (u,aA)) :
 (setObj b (.map ms' c')).run P w = .ok () (g7 w b (.map ms' c'))/\Step g st.h w st.nx aA.nx g aA.h (g7 w b (.map ms' c'))/\Ok g aA.h (g7 w b (.map ms' c')):=by
 obtain ⟨_,aD,cL,aJ⟩:=Al h;have hmod:=yp (x:=.map es) (x':=.map es') (lo:=st.nx) (up:=aA.nx) (ob':=.map ms' c') aB ho hi hm (fun cs0 e0 kW he=>by cases he)
  (fun j hj=>by simp [World.cell?,hm,ir _ (bu hm)]) aD
  (fun aG=>⟨hb0,ms',c',ir _ (bu hm),hrel.same rfl id fun i e v he=>⟨e,he,rfl,fun hr=>hr.ext aG⟩⟩)
 exact ⟨aDw _ hm,by rw [cL,hs1.1];exact hmod.1,by rw [cL,hs1.1];exact hmod.2⟩
theorem isEmpty_eq {es:List (Value × AV)} {ms:Array MapEntry} (h:ms.size=es.length):ms.isEmpty=es.isEmpty:=by
 cases es with
 |nil=>simp at h;simp [h]
 |cons e es=>
  simp only [List.isEmpty_cons];cases hm:ms.isEmpty with
  |false=>rfl
  |true=>simp at hm;subst hm;simp at h
theorem acz {P:Program} {kt et:TypeId} {k:Value} {ok:Bool} {x:bo} {s aA:St} {r:AV} (h:Nw P kt et k ok x s=some (r,aA)) :
 ∃ es,x = .map es/\ev P (Instr.checkKey es.isEmpty 10000 kt k)=some ()/\∃ z,fp P et=some z/\aA=s /\
  ((∃ i e,wb P kt k es=some (some i)/\es[i]? = some e/\r=bif ok then .gn [e.2,.sc (.bool true)] else e.2)\/(wb P kt k es=some none/\r=bif ok then .gn [.sc z,.sc (.bool false)] else .sc z)):=by
 cases x with
 |row=>cases h
 |loop=>cases h
 |map es=>
  refine ⟨es,rfl,?_⟩;simp only [Nw] at h;cases hc:ev P (Instr.checkKey es.isEmpty 10000 kt k) with
  |none=>simp [hc,M.fail] at h
  |some u=>
  cases hf:wb P kt k es with
  |none=>simp [hc,hf,M.fail] at h
  |some q=>
  refine ⟨rfl,?_⟩;cases q with
  |none=>
   simp only [hc,hf] at h;cases hz:fp P et with
   |none=>simp [hz,found,M.fail] at h
   |some z=>
    rw [hz] at h;obtain ⟨h1,h2⟩:=cr h;exact ⟨z,rfl,h2,.inr ⟨rfl,h1⟩⟩
  |some i=>
   simp only [hc,hf] at h;cases he:es[i]? with
   |none=>simp [he,M.fail] at h
   |some e=>
   rw [he] at h;cases hz:fp P et with
   |none=>simp [hz,found,M.fail] at h
   |some z=>
    rw [hz] at h;obtain ⟨h1,h2⟩:=cr h;exact ⟨z,rfl,h2,.inl ⟨i,e,rfl,he,h1⟩⟩
theorem aD2 {g w a v} {b:Bool} (h:Rel g w a v):Rel g w (.gn [a,.sc (.bool b)]) (.tuple #[v,.bool b]):=
 .gn _ _ rfl (fun i x y h1 h2=>by
  cases i with
  |zero=>simp at h1 h2;subst h1 h2;exact h
  |succ i=>cases i with
   |zero=>simp at h1 h2;subst h1 h2;exact .sc _
   |succ i=>simp at h1)
theorem aki {P:Program} {g st aA w} {t:TypeId} {x ix r:AV} {v k:Value} {ok:Bool} (aB:Ok g st.h w) (hx:Rel g w x v) (hk:Rel g w ix k) (h:Ty P t x ix ok st=some (r,aA)) :
 de P g st w (Instr.lookup t v k ok) r aA:=by
 unfold Ty at h;cases hu:P.underlying t with
 |none=>simp [hu,M.fail] at h
 |some d=>
 rw [hu] at h;cases d with
 |map kt et=>
  cases x with
  |mp id=>
   cases eF:ix.gw with
   |none=>simp [eF,M.fail] at h
   |some kv=>
   simp only [eF] at h;have:=hk.exact eF;subst this;obtain ⟨y,s1,h1,h2⟩:=bind_some h;obtain ⟨hy,hh,hn⟩:=iu h1;obtain ⟨es,rfl,hc,z,hz,rfl,hr⟩:=acz h2;cases hx with
   |mp _ b base hi=>
   obtain ⟨b',base',hi',_,hrel⟩:=aB.obj id _ hy;rw [hi] at hi';cases hi';obtain ⟨_,ms,clock,m1,m2⟩:=hrel;have hck:=D3 _ _ w hc;rw [<- isEmpty_eq m2.len] at hck;rcases hr with ⟨i,e,hf,he,rfl⟩|⟨hf,rfl⟩
   ·rcases Cr m2 hf with ⟨h3,_⟩|⟨i',j,e',m,l,h3,h4,h5,h6,_,h7,h8,_⟩
    ·cases h3
    ·cases h3;rw [he] at h4;cases h4;cases ok with
     |true=>exact de.still aB hh (by simp [Instr.lookup,run_underlying hu,Bs m1,hck,h6]) (aD2 (h8 _ _ _ he h7).2)
     |false=>exact de.still aB hh (by simp [Instr.lookup,run_underlying hu,Bs m1,hck,h6]) (h8 _ _ _ he h7).2
   ·rcases Cr m2 hf with ⟨_,h3⟩|⟨i',j,e',m,l,h3,_⟩
    ·cases ok with
     |true=>exact de.still aB hh (by simp [Instr.lookup,run_underlying hu,Bs m1,hck,h3,ml hz]) (aD2 (.sc z))
     |false=>exact de.still aB hh (by simp [Instr.lookup,run_underlying hu,Bs m1,hck,h3,ml hz]) (.sc z)
    ·cases h3
  |_=>cases h
 |_=>cases h
theorem Hh {α:Type} (l:List α) (i:Nat) (x : α) (hi:i<l.length) (j:Nat):(setAt l i x)[j]? = if j=i then some x else l[j]? := by
 unfold setAt;have hl:(l.take i).length=i:=by simp;omega
 by_cases h1:j<i
 ·rw [zzi zO,zye,if_pos h1,if_neg zO]
 ·rw [zzd zO,hl];by_cases h2:j=i
  ·subst h2;simp
  ·rw [if_neg h2,show j - i=(j - i - 1)+1 from by omega,List.getElem?_cons_succ,zz6]
   congr 1;omega
theorem Gg {α:Type} (l:List α) (i:Nat) (x : α) (hi:i<l.length):(setAt l i x).length=l.length:=by unfold setAt;simp;omega
theorem acg {P:Program} {id:Nat} {kt:TypeId} {key:Value} {v:AV} {x:bo} {s aA:St} {r:AV} (h:Nx P id kt key v x s=some (r,aA)) :
 ∃ es,x = .map es/\ev P (Instr.checkKey false 10000 kt key)=some ()/\r = .sc undef /\
  (
   (∃ i e aX u,wb P kt key es=some (some i)/\es[i]? = some e/\ev P (Instr.keyThatStays e.1 key)=some aX/\stays es (setAt es i (aX,v))=true/\sf id (.map (setAt es i (aX,v))) s=some (u,aA)) \/
   (∃ u,wb P kt key es=some none/\stays es (es++[(key,v)])=true/\sf id (.map (es++[(key,v)])) s=some (u,aA))):=by
 cases x with
 |row=>cases h
 |loop=>cases h
 |map es=>
  refine ⟨es,rfl,?_⟩;simp only [Nx] at h;cases hc:ev P (Instr.checkKey false 10000 kt key) with
  |none=>simp [hc,M.fail] at h
  |some u=>
  cases hf:wb P kt key es with
  |none=>simp [hc,hf,M.fail] at h
  |some q=>
  refine ⟨rfl,?_⟩;cases q with
  |none=>
   simp only [hc,hf] at h;rcases cy h with ⟨hs,h⟩|⟨_,h⟩
   ·obtain ⟨u,s1,h1,h2⟩:=bind_some h;obtain ⟨rfl,rfl⟩:=cr h2;exact ⟨rfl,.inr ⟨u,rfl,hs,h1⟩⟩
   ·cases h
  |some i=>
   simp only [hc,hf] at h;cases he:es[i]? with
   |none=>simp [he,M.fail] at h
   |some e=>
   simp only [he] at h;cases hk:ev P (Instr.keyThatStays e.1 key) with
   |none=>simp [hk,M.fail] at h
   |some aX=>
   simp only [hk] at h;rcases cy h with ⟨hs,h⟩|⟨_,h⟩
   ·obtain ⟨u,s1,h1,h2⟩:=bind_some h;obtain ⟨rfl,rfl⟩:=cr h2;exact ⟨rfl,.inl ⟨i,e,aX,u,rfl,he,hk,hs,h1⟩⟩
   ·cases h
theorem ah3 {L:List MapEntry} (hb:(L.map (·.born)).Nodup) {i j:Nat} {m:MapEntry} (hi:L[i]? = some m) (hj:L[j]? = some m):i=j:=by
 have key:∀ i j:Nat,i<j->L[i]? = some m->L[j]? = some m->False:=by intro i j dI hi hj;obtain ⟨h1,e1⟩:=zg.1 hi;obtain ⟨h2,e2⟩:=zg.1 hj;have:=List.pairwise_iff_getElem.1 hb i j (by simpa using h1) (by simpa using h2) dI;simp only [List.getElem_map,e1,e2] at this;exact this rfl
 rcases Nat.lt_trichotomy i j with q|q|q
 ·exact (key i j q hi hj).elim
 ·exact q
 ·exact (key j i q hj hi).elim
theorem Fu {α:Type} {l:List α} {i:Nat} {m : α} (h:l[i]? = some m):l.Perm (m::(l.take i++l.drop (i+1)))/\∀ m',(setAt l i m').Perm (m'::(l.take i++l.drop (i+1))):=by
 obtain ⟨hi,rfl⟩:=zg.1 h;refine ⟨?_,fun m'=>List.perm_middle⟩;have:l=l.take i++l[i]::l.drop (i+1):=by rw [<- zzs hi,zzm]
 exact (List.Perm.of_eq this).trans List.perm_middle
theorem ah8 {α:Type} {l k:List α} (h:l.Perm k) {i j:Nat} {m : α} (hi:l[i]? = some m) (hj:k[j]? = some m):(l.take i++l.drop (i+1)).Perm (k.take j++k.drop (j+1)):=
 List.Perm.cons_inv (((Fu hi).1.symm.trans h).trans (Fu hj).1)
theorem aq4 {α:Type} {l k:List α} (h:l.Perm k) {i j:Nat} {m m' : α} (hi:l[i]? = some m) (hj:k[j]? = some m):(setAt l i m').Perm (setAt k j m'):=
 (((Fu hi).2 m').trans ((ah8 h hi hj).cons m')).trans ((Fu hj).2 m').symm
theorem Yv {α:Type} (l:List α) (i:Nat) (hi:i<l.length) (j:Nat):(l.take i++l.drop (i+1))[j]? = if j<i then l[j]? else l[j+1]? := by
 have hl:(l.take i).length=i:=by simp;omega
 by_cases h1:j<i
 ·rw [if_pos h1,zzi zO,zye,if_pos h1]
 ·rw [if_neg h1,zzd zO,hl,zz6]
  congr 1;omega
theorem Rn {P:Program} {g st aA w} {t:TypeId} {m k x r:AV} {mv kv xv:Value} (aB:Ok g st.h w) (hm:Rel g w m mv) (hk:Rel g w k kv) (hx:Rel g w x xv) (h:Tt P t m k x st=some (r,aA)) :
 ∃ w' g',(Instr.mapUpdate t mv kv xv).run P w = .ok () w'/\Step g st.h w st.nx aA.nx g' aA.h w'/\Ok g' aA.h w'/\r = .sc undef:=by
 unfold Tt at h;cases hu:P.underlying t with
 |none=>simp [hu,M.fail] at h
 |some d=>
 rw [hu] at h;cases d with
 |map kt et=>
  cases m with
  |mp id=>
   cases eF:k.gw with
   |none=>simp [eF,M.fail] at h
   |some key=>
   simp only [eF] at h;have:=hk.exact eF;subst this;obtain ⟨y,s1,h1,h2⟩:=bind_some h;obtain ⟨hy,hh,hn⟩:=iu h1;obtain ⟨es,rfl,hc,rfl,hr⟩:=acg h2;cases hm with
   |mp _ b base hi=>
   obtain ⟨b',base',hi',_,hrel⟩:=aB.obj id _ hy;rw [hi] at hi';cases hi';obtain ⟨hb0,ms,clock,m1,m2⟩:=hrel;have hck:=D3 _ _ w hc;rcases hr with ⟨i,e,aX,u,hf,he,xB,eQ,hs⟩|⟨u,hf,eQ,hs⟩
   ·rcases Cr m2 hf with ⟨h3,_⟩|⟨i',j,e',mm,l,h3,h4,h5,h6,p1,p2,p3,p4⟩
    ·cases h3
    ·cases h3;rw [he] at h4;cases h4;have bO:i<es.length:=(zg.1 he).1;have dB:l.length=es.length:=by rw [p1.length_eq,<- m2.len];simp
     have hkey:=(p3 _ _ _ he p2).1;have hst:=D3 _ _ w xB;rw [<- hkey] at hst;have jB:ms.toList[j]? = some mm:=by simpa using h5
     have fT:=(zg.1 jB).1;have bS:(ms.modify j fun e=>{ e with key:=aX,val:=xv }).toList=setAt ms.toList j { mm with key:=aX,val:=xv }:=by
      apply List.ext_getElem?;intro n;rw [zz2,Array.getElem?_modify,Hh _ _ _ fT,zz2];by_cases hn:n=j
      ·subst hn;simp [h5]
      ·rw [if_neg hn,if_neg (Ne.symm hn)]
     have iX:(ms.modify j fun e=>{ e with key:=aX,val:=xv }).toList.map (·.born)=ms.toList.map (·.born):=by
      apply List.ext_getElem?;intro n;rw [bS,zzj,zzj,Hh _ _ _ fT];by_cases hn:n=j
      ·subst hn;rw [if_pos rfl,jB];rfl
      ·rw [if_neg hn]
     have hrel':s8 g w (setAt es i (aX,x)) (ms.modify j fun e=>{ e with key:=aX,val:=xv }) clock:=by
      have hp:=aq4 (m':={ mm with key:=aX,val:=xv }) p1 p2 jB;refine ⟨by rw [Gg _ _ _ bO];simpa using m2.len,by rw [iX];exact m2.born,fun m hm=>?_,setAt l i { mm with key:=aX,val:=xv },by rw [bS];exact hp,fun n e m hj hm=>?_,?_⟩
      ·have:m.born ∈ ms.toList.map (·.born):=by rw [<- iX];exact List.mem_map_of_mem hm
       obtain ⟨m0,q1,q2⟩:=zyj.1 this;rw [<- q2];exact m2.Sd m0 q1
      ·rw [Hh _ _ _ bO] at hj;rw [Hh _ _ _ zO] at hm;by_cases mN:n=i
       ·rw [if_pos mN] at hj hm;cases hj;cases hm;exact ⟨rfl,hx⟩
       ·rw [if_neg mN] at hj hm;exact p3 n e m hj hm
      ·refine K9 (k:=ms.toList) (l:=l) (fun e=>?_) (p4.imp (·.1) (fun h=>h)) eQ (by rw [bS];exact hp) (by rw [Gg _ _ _ zO,Gg _ _ _ bO,dB]);rw [bS];subst e;rw [ah3 m2.born p2 jB]
     obtain ⟨q1,q2,q3⟩:=Qd (P:=P) (ms':=ms.modify j fun e=>{ e with key:=aX,val:=xv }) (c':=clock) aB hy hi hb0 m1 hrel' ⟨hh,hn⟩ hs;refine ⟨_,g,?_,q2,q3,rfl⟩;simp [Instr.mapUpdate,run_underlying hu,Bs m1,hck,h6,h5,hst,q1]
   ·rcases Cr m2 hf with ⟨_,h3⟩|⟨i',j,e',mm,l,h3,_⟩
    ·obtain ⟨l,p1,p2,p3⟩:=m2.perm;have dB:l.length=es.length:=by rw [p1.length_eq,<- m2.len];simp
     have hrel':s8 g w (es++[(kv,x)]) (ms.push { key:=kv,val:=xv,born:=clock }) (clock+1):=by
      have hp:(l++[({ key:=kv,val:=xv,born:=clock }:MapEntry)]).Perm (ms.push { key:=kv,val:=xv,born:=clock }).toList:=by rw [Array.toList_push];exact p1.append_right _
      refine ⟨by simp [m2.len],?_,fun m hm=>?_,_,hp,fun n e m hj hm=>?_,?_⟩
      ·rw [Array.toList_push,zzw,List.nodup_append];refine ⟨m2.born,by simp,fun b hb b' hb'=>?_⟩;obtain ⟨m,q1,rfl⟩:=zyj.1 hb;simp at hb';have:=m2.Sd m q1;omega
      ·rw [Array.toList_push] at hm;rcases zzq.1 hm with hm|hm
       ·exact Nat.lt_succ_of_lt (m2.Sd m hm)
       ·simp at hm;subst hm;exact Nat.lt_succ_self _
      ·by_cases fT:n<es.length
       ·rw [zzi fT] at hj;rw [zzi zO] at hm;exact p2 n e m hj hm
       ·rw [zzd zO] at hj hm;have oM:n=es.length:=by
         have:=(zg.1 hj).1;simp at this;omega
        subst oM;rw [dB] at hm;simp at hj hm;subst hj hm;exact ⟨rfl,hx⟩
      ·exact K9 (k:=ms.toList) (l:=l) (fun e=>by rw [Array.toList_push,e]) p3 eQ hp (by simp [dB])
     obtain ⟨q1,q2,q3⟩:=Qd (P:=P) (ms':=ms.push { key:=kv,val:=xv,born:=clock }) (c':=clock+1) aB hy hi hb0 m1 hrel' ⟨hh,hn⟩ hs;refine ⟨_,g,?_,q2,q3,rfl⟩;simp [Instr.mapUpdate,run_underlying hu,Bs m1,hck,h3,q1]
    ·cases h3
  |_=>cases h
 |_=>cases h
theorem acy {P:Program} {id:Nat} {kt:TypeId} {key:Value} {x:bo} {s aA:St} {r:AV} (h:Pw P id kt key x s=some (r,aA)) :
 ∃ es,x = .map es/\ev P (Instr.checkKey es.isEmpty 10000 kt key)=some ()/\r = .sc (.tuple #[]) /\
  (
   (∃ i u,wb P kt key es=some (some i)/\stays es (es.take i++es.drop (i+1))=true/\sf id (.map (es.take i++es.drop (i+1))) s=some (u,aA)) \/
   (∃ u,wb P kt key es=some none/\sf id (.map es) s=some (u,aA))):=by
 cases x with
 |row=>cases h
 |loop=>cases h
 |map es=>
  refine ⟨es,rfl,?_⟩;simp only [Pw] at h;cases hc:ev P (Instr.checkKey es.isEmpty 10000 kt key) with
  |none=>simp [hc,M.fail] at h
  |some u=>
  cases hf:wb P kt key es with
  |none=>simp [hc,hf,M.fail] at h
  |some q=>
  refine ⟨rfl,?_⟩;cases q with
  |none=>
   simp only [hc,hf] at h;obtain ⟨u,s1,h1,h2⟩:=bind_some h;obtain ⟨rfl,rfl⟩:=cr h2;exact ⟨rfl,.inr ⟨u,rfl,h1⟩⟩
  |some i=>
   simp only [hc,hf] at h;rcases cy h with ⟨hs,h⟩|⟨_,h⟩
   ·obtain ⟨u,s1,h1,h2⟩:=bind_some h;obtain ⟨rfl,rfl⟩:=cr h2;exact ⟨rfl,.inl ⟨i,u,rfl,hs,h1⟩⟩
   ·cases h
theorem alk {P:Program} {g st aA w} {ts:Array TypeId} {ty:TypeId} {m k r:AV} {mv kv:Value} (aB:Ok g st.h w) (hm:Rel g w m mv) (hk:Rel g w k kv) (h:T1 P ((ts[0]?).bind P.underlying) m k st=some (r,aA)) :
 de P g st w (Builtin.delete_ ts ty #[mv,kv]) r aA:=by
 unfold T1 at h;cases h0:ts[0]? with
 |none=>simp [h0,M.fail] at h
 |some t=>
 rw [h0] at h;simp only [Option.bind_some] at h;cases hu:P.underlying t with
 |none=>simp [hu,M.fail] at h
 |some d=>
 rw [hu] at h;cases d with
 |map kt et=>
  cases m with
  |mp id=>
   cases eF:k.gw with
   |none=>simp [eF,M.fail] at h
   |some key=>
   simp only [eF] at h;have:=hk.exact eF;subst this;obtain ⟨y,s1,h1,h2⟩:=bind_some h;obtain ⟨hy,hh,hn⟩:=iu h1;obtain ⟨es,rfl,hc,rfl,hr⟩:=acy h2;cases hm with
   |mp _ b base hi=>
   obtain ⟨b',base',hi',_,hrel⟩:=aB.obj id _ hy;rw [hi] at hi';cases hi';obtain ⟨hb0,ms,clock,m1,m2⟩:=hrel;have hck:=D3 _ _ w hc;rw [<- isEmpty_eq m2.len] at hck;rcases hr with ⟨i,u,hf,eQ,hs⟩|⟨u,hf,hs⟩
   ·rcases Cr m2 hf with ⟨h3,_⟩|⟨i',j,e',mm,l,h3,h4,h5,h6,p1,p2,p3,p4⟩
    ·cases h3
    ·cases h3;have bO:i<es.length:=(zg.1 h4).1;have dB:l.length=es.length:=by rw [p1.length_eq,<- m2.len];simp
     have jB:ms.toList[j]? = some mm:=by simpa using h5
     have fT:=(zg.1 jB).1;have iO:j<ms.size:=by simpa using fT
     have hE:ms.eraseIdxIfInBounds j=ms.eraseIdx j iO:=by simp [Array.eraseIdxIfInBounds,iO]
     have bS:(ms.eraseIdxIfInBounds j).toList=ms.toList.take j++ms.toList.drop (j+1):=by apply List.ext_getElem?;intro n;rw [hE,zz2,Array.getElem?_eraseIdx,Yv _ _ fT,zz2,zz2]
     have aU:(ms.eraseIdxIfInBounds j).toList.Sublist ms.toList:=by
      rw [bS];have:=(List.drop_sublist_drop_left ms.toList (show j<=j+1 by omega)).append_left (ms.toList.take j)
      rwa [zzm] at this
     have hrel':s8 g w (es.take i++es.drop (i+1)) (ms.eraseIdxIfInBounds j) clock:=by
      have hp:=ah8 p1 p2 jB;refine ⟨?_,(aU.map _).nodup m2.born,fun m hm=>m2.Sd m (aU.subset hm),l.take i++l.drop (i+1),by rw [bS];exact hp,fun n e m hj hm=>?_,?_⟩
      ·have:=m2.len;rw [hE,Array.size_eraseIdx];simp;omega
      ·rw [Yv _ _ bO] at hj;rw [Yv _ _ zO] at hm;by_cases mN:n<i
       ·rw [if_pos mN] at hj hm;exact p3 n e m hj hm
       ·rw [if_neg mN] at hj hm;exact p3 (n+1) e m hj hm
      ·refine K9 (k:=ms.toList) (l:=l) (fun e=>?_) (p4.imp (·.1) (fun h=>h)) eQ (by rw [bS];exact hp) (by simp [dB]);rw [bS];subst e;rw [ah3 m2.born p2 jB]
     obtain ⟨q1,q2,q3⟩:=Qd (P:=P) (ms':=ms.eraseIdxIfInBounds j) (c':=clock) aB hy hi hb0 m1 hrel' ⟨hh,hn⟩ hs;refine ⟨_,_,g,?_,q2,q3,.sc _⟩;simp [Builtin.delete_,h0,run_underlying hu,Bs m1,hck,h6,q1]
   ·rcases Cr m2 hf with ⟨_,h3⟩|⟨i',j,e',mm,l,h3,_⟩
    ·obtain ⟨q1,q2,q3⟩:=Qd (P:=P) (ms':=ms) (c':=clock) aB hy hi hb0 m1 m2 ⟨hh,hn⟩ hs;refine ⟨_,_,g,?_,q2,q3,.sc _⟩;simp [Builtin.delete_,h0,run_underlying hu,Bs m1,hck,h3,q1]
    ·cases h3
  |_=>cases h
 |_=>cases h
theorem qk.unit {P g st w} [KP P] {s:Sem Unit} {r aA} (h:∃ w' g',s.run P w = .ok () w'/\Step g st.h w st.nx aA.nx g' aA.h w'/\Ok g' aA.h w'/\r = .sc undef):qk P g st w (do s;pure .skip) r aA:=by obtain ⟨w',g',h1,h2,h3,h4⟩:=h;exact ⟨.skip,w',g',by simp [h1],h2,h3,.inr ⟨rfl,h4⟩⟩
theorem n7.list {g w ρa ρ} (hρ:n7 g w ρa ρ) (l:List Operand):bt g w (l.map ρa) (l.map ρ):=
 ⟨by simp,fun i a v h1 h2=>by
  rw [zzj] at h1 h2;cases hl:l[i]? with
  |none=>rw [hl] at h1;cases h1
  |some x=>rw [hl] at h1 h2;simp at h1 h2;subst h1 h2;exact hρ x⟩
theorem aeo {g w ρa ρ} (hρ:n7 g w ρa ρ) (parts:Array (Nat × Operand)) :
 (parts.toList.map fun p=>(p.1,ρa p.2)).length=(parts.map fun (i,x)=>(i,ρ x)).toList.length /\
 ∀ (i:Nat) p q,(parts.toList.map fun p=>(p.1,ρa p.2))[i]? = some p->(parts.map fun (i,x)=>(i,ρ x)).toList[i]? = some q->p.1=q.1/\Rel g w p.2 q.2:=by
 refine ⟨by simp,fun i p q h1 h2=>?_⟩;rw [zzj] at h1;rw [Array.toList_map,zzj] at h2;cases hl:parts.toList[i]? with
 |none=>rw [hl] at h1;cases h1
 |some x=>rw [hl] at h1 h2;simp at h1 h2;subst h1 h2;exact ⟨rfl,hρ x.2⟩
theorem ade {g w ρa ρ} (hρ:n7 g w ρa ρ) {args:Array Operand} (h:k9 ρa args.toList=true):args.map (fun z=>((ρa z).gw).getD undef)=args.map ρ:=by apply Array.ext';rw [Array.toList_map,Array.toList_map];exact List.map_congr_left fun x hx=>agy hρ h x hx
theorem aex {P:Program} [KP P] {g:Gh} {st aA:St} {w:World} {ρa:Operand->AV} {ρ:Operand->Value} {o:Oper} {r:AV} {c:Call} {b:Builtin} (hc:c.callee = .builtin b) (ho:o.op = .call c) (aB:Ok g st.h w) (hf:nk g st aA) (hρ:n7 g w ρa ρ)
 (h:Py P ρa o b c.args.toList c.argTypes st=some (r,aA)):qk P g st w (execOp ρ o) r aA:=by
 have hex:∀ ρ:Operand->Value,execOp ρ o=builtin b c.argTypes o.type (c.args.map fun|.const _=>true|_=>false) (c.args.map ρ):=by intro ρ;simp [execOp,ho,resolve,hc,invoke];rfl
 have aL:∀ l:List Operand,c.args.toList=l->c.args.map ρ=(l.map ρ).toArray:=by intro l hl;apply Array.ext';rw [Array.toList_map,hl]
 have cM:kh P ρa o c.args.toList st=some (r,aA)->qk P g st w (execOp ρ o) r aA:=by
  intro h;by_cases he:k9 ρa c.args.toList=true
  ·exact v5 aB hρ (.inl (by rw [hex,hex,ade hρ he])) h
  ·exact v5 aB hρ (.inr (by simpa using he)) h
 have one:∀ x,c.args.toList=[x]->c.args.map ρ = #[ρ x]:=fun x hx=>aL _ hx
 have two:∀ x y,c.args.toList=[x,y]->c.args.map ρ = #[ρ x,ρ y]:=fun x y hx=>aL _ hx
 generalize dM:c.args.toList=al at h;unfold Py at h
 split at h
 ·rename_i x;rw [hex,one _ dM];exact de.value (P:=P) (axe aB (hρ x) h)
 ·rename_i s x;rw [hex,two _ _ dM];exact de.value (P:=P) (ajt aB hf (hρ s) (hρ x) h)
 ·rename_i d x;rw [hex,two _ _ dM];exact de.value (P:=P) (awa aB (hρ d) (hρ x) h)
 ·rename_i m k;rw [hex,two _ _ dM];exact de.value (P:=P) (alk aB (hρ m) (hρ k) h)
 ·rename_i x;rw [hex,one _ dM];exact de.value (P:=P) (ayx aB (hρ x) h)
 ·rename_i x;rw [hex,one _ dM];exact de.value (P:=P) (X6 aB (hρ x) h)
 ·rename_i x y;rw [hex,two _ _ dM];exact de.value (P:=P) (Q8 aB (hρ x) (hρ y) h)
 ·rw [<- dM] at h;exact cM h
 ·rw [<- dM] at h;exact cM h
 ·cases h
theorem aDd {P:Program} [KP P] {g:Gh} {st aA:St} {w:World} {ρa:Operand->AV} {ρ:Operand->Value} {o:Oper} {r:AV} (aB:Ok g st.h w) (hf:nk g st aA) (hρ:n7 g w ρa ρ)
 (h:aop P o ρa st=some (r,aA)):qk P g st w (execOp ρ o) r aA:=by
 unfold aop at h;cases ho:o.op with
 |move x=>
  rw [ho] at h;obtain ⟨rfl,rfl⟩:=cr h;exact ⟨_,_,g,by simp [execOp,ho],.refl _ _ _ _ _,aB,.inl ⟨_,rfl,hρ x⟩⟩
 |assign x=>
  rw [ho] at h;obtain ⟨rfl,rfl⟩:=cr h;exact ⟨_,_,g,by simp [execOp,ho],.refl _ _ _ _ _,aB,.inl ⟨_,rfl,hρ x⟩⟩
 |load t a=>rw [ho] at h;have:=de.value (P:=P) (atl aB (hρ a) h);simpa [execOp,ho] using this
 |fieldAddr s x f=>rw [ho] at h;have:=de.value (P:=P) (Xw aB (hρ x) h);simpa [execOp,ho] using this
 |binOp op t x y ck=>
  rw [ho] at h;exact axh aB hρ (by simp [execOp,ho]) (fun h1 h2=>by simp [execOp,ho,By hρ h1,By hρ h2]) h
 |pick c a b=>rw [ho] at h;have:=de.value (P:=P) (av2 aB (hρ c) (hρ a) (hρ b) h);simpa [execOp,ho] using this
 |store t a x=>rw [ho] at h;have:=qk.unit (P:=P) (aoy aB (hρ a) (hρ x) h);simpa [execOp,ho] using this
 |extract t ix=>rw [ho] at h;have:=de.value (P:=P) (ah2 aB (hρ t) h);simpa [execOp,ho] using this
 |indexAddr t x ix=>rw [ho] at h;have:=de.value (P:=P) (Yz aB (hρ x) (hρ ix) h);simpa [execOp,ho] using this
 |nilCheck x=>rw [ho] at h;exact ack aB hρ ho h
 |alloc t=>rw [ho] at h;have:=de.value (P:=P) (aqs aB hf h);simpa [execOp,ho] using this
 |box t x=>rw [ho] at h;have:=de.value (P:=P) (afm aB hf (hρ x) h);simpa [execOp,ho] using this
 |build t parts=>rw [ho] at h;have hp:=aeo hρ parts;have:=de.value (P:=P) (aqm aB hp.1 hp.2 h);simpa [execOp,ho] using this
 |buildSlice t len parts=>rw [ho] at h;have hp:=aeo hρ parts;have:=de.value (P:=P) (Wf aB hf hp.1 hp.2 h);simpa [execOp,ho] using this
 |makeSlice t l c=>rw [ho] at h;have:=de.value (P:=P) (Yo aB hf (hρ l) (hρ c) h);simpa [execOp,ho] using this
 |makeMap t ro=>rw [ho] at h;have:=de.value (P:=P) (ajd (t:=t) (rv:=ro.map ρ) (fun e=>by rw [e];rfl) aB hf h);simpa [execOp,ho] using this
 |makeFunc f first captured=>
  rw [ho] at h;obtain ⟨rfl,rfl⟩:=cr h;have h1:=hρ.list first.toList
  have h2:=hρ.list captured.toList;have:=de.value (P:=P) (de.still aB rfl (s:=Instr.makeFunc f (first.map ρ) (captured.map ρ)) rfl
   (Rel.fn f (first.toList.map ρa) (captured.toList.map ρa) (first.map ρ) (captured.map ρ) (by simp) (fun i a v q1 q2=>h1.2 i a v q1 (by rw [<- Array.toList_map,zz2];exact q2)) (by simp) (fun i a v q1 q2=>h2.2 i a v q1 (by rw [<- Array.toList_map,zz2];exact q2))))
  simpa [execOp,ho] using this
 |convert src dst x=>rw [ho] at h;exact aji aB hf hρ ho h
 |makeInterface t x=>rw [ho] at h;have:=de.value (P:=P) (Na aB (hρ x) h);simpa [execOp,ho] using this
 |field s x f=>rw [ho] at h;have:=de.value (P:=P) (arl aB (hρ x) h);simpa [execOp,ho] using this
 |index t x ix=>rw [ho] at h;exact ao0 aB hρ ho h
 |slice t x lo hi mx=>
  rw [ho] at h;have hex:∀ ρ:Operand->Value,execOp ρ o=(do pure (.value (<- Instr.sliceAt t (ρ x) (lo.map ρ) (hi.map ρ) (mx.map ρ)))):=by intro ρ;simp [execOp,ho]
  rw [hex];refine de.value (P:=P) (aqt aB hρ ho (fun r' hp=>?_) h);by_cases he:k9 ρa (.slice t x lo hi mx:Op).operands.toList=true
  ·have hx:=agy hρ he;have hmem:∀ y,(y=x\/lo=some y\/hi=some y\/mx=some y)->((ρa y).gw).getD undef = ρ y:=fun y hy=>hx y (by
    rcases hy with rfl|rfl|rfl|rfl<;>simp [Op.operands])
   have bQ:∀ q:Option Operand,(∀ y,q=some y->((ρa y).gw).getD undef = ρ y)->q.map (fun z=>((ρa z).gw).getD undef)=q.map ρ:=by
    intro q hq;cases q with
    |none=>rfl
    |some y=>simp [hq y rfl]
   have heq:execOp (fun z=>((ρa z).gw).getD undef) o=execOp ρ o:=by rw [hex,hex,hmem x (.inl rfl),bQ lo (fun y e=>hmem y (.inr (.inl e))),bQ hi (fun y e=>hmem y (.inr (.inr (.inl e)))),bQ mx (fun y e=>hmem y (.inr (.inr (.inr e))))]
   obtain ⟨rfl,h1⟩:=Z0 (P:=P) hρ (.inl heq) hp;rw [hex] at h1;cases hs:(Instr.sliceAt t (ρ x) (lo.map ρ) (hi.map ρ) (mx.map ρ)).run P w with
   |ok v w'=>
    rcases h1 with ⟨u,h2,rfl⟩|⟨h2,_⟩
    ·simp [hs] at h2;obtain ⟨rfl,rfl⟩:=h2;exact de.still aB rfl hs (.sc _)
    ·simp [hs] at h2
   |_=>rcases h1 with ⟨u,h2,_⟩|⟨h2,_⟩<;>simp [hs] at h2
  ·rw [kh,show k9 ρa (.slice t x lo hi mx:Op).operands.toList=false from by simpa using he] at hp;cases hp
 |lookup t x ix ok=>rw [ho] at h;have:=de.value (P:=P) (aki aB (hρ x) (hρ ix) h);simpa [execOp,ho] using this
 |mapUpdate t m k x=>rw [ho] at h;have:=qk.unit (P:=P) (Rn aB (hρ m) (hρ k) (hρ x) h);simpa [execOp,ho] using this
 |insert t m k x=>rw [ho] at h;have:=qk.unit (P:=P) (Rn aB (hρ m) (hρ k) (hρ x) h);simpa [execOp,ho] using this
 |typeAssert x xT asserted ok=>rw [ho] at h;exact Vs aB hρ ho h
 |unOp op t x=>
  rw [ho] at h;by_cases he:k9 ρa [x]=true
  ·refine v5 aB hρ (.inl ?_) h;simp only [k9,List.all_cons,List.all_nil,Bool.and_true] at he;simp [execOp,ho,By hρ he]
  ·exact v5 aB hρ (.inr (by simpa using he)) h
 |call c=>
  rw [ho] at h;obtain ⟨callee,args,argTypes⟩:=c;cases callee with
  |builtin b=>exact aex rfl ho aB hf hρ h
  |_=>cases h
 |_=>rw [ho] at h;cases h
def ft (ro:Option Nat):Fence:={ Fence.wide with round:=ro }
theorem Mb {ro ro':Option Nat} {n m:Nat} {P:Program} [KP P] {f:FuncId} {args:Array Value} {w:World} {R:Ending->World->Prop} (h:CallsIn (ft ro) n P f args w R):CallsIn (ft ro') m P f args w R:=
 ⟨trivial,fun cs _=>h.2 cs (fun d hd=>by cases hd)⟩
theorem rp {ro:Option Nat} {n:Nat} {P:Program} [KP P] {f:FuncId} {args:Array Value} {w:World} {R:Ending->World->Prop} (h:Calls P f args w R):CallsIn (ft ro) n P f args w R:=
 Mb (ro:=none) (n:=0) (callsIn_wide.2 h)
theorem u2 {ro:Option Nat} {n:Nat} {P:Program} [KP P] {f:FuncId} {args:Array Value} {w:World} {R:Ending->World->Prop} (h:CallsIn (ft ro) n P f args w R):Calls P f args w R:=
 (callsIn_wide (n:=0)).1 (Mb (ro':=none) h)
theorem put_defers (a:Act) (dst:Option Tmp) (v:Value):(a.put dst v).defers=a.defers:=by cases dst<;>rfl
structure Stp (g:Gh) (st:St) (w:World) (g':Gh) (aA:St) (w':World):Prop where
 le:st.nx<=aA.nx
 step:Step g st.h w st.nx aA.nx g' aA.h w'
theorem Ew {α:Type} {m:M α} {s:St} {r : α × St} (h:mono m s=some r):m s=some r/\s.nx<=r.2.nx:=by
 unfold mono at h;cases hm:m s with
 |none=>rw [hm] at h;cases h
 |some p=>
  obtain ⟨a,s'⟩:=p;rw [hm] at h;simp only at h;cases hb:Nat.ble s.nx s'.nx with
  |false=>rw [hb] at h;cases h
  |true=>rw [hb] at h;cases h;exact ⟨rfl,zB hb⟩
theorem ape {P:Program} [KP P] {g st aA w t a v r ad} (aB:Ok g st.h w) (ha:Rel g w a v) (h:ta P t a st=some (r,aA)) (hv:v = .pointer (some ad)):∃ u,(loadVar t ad).run P w = .ok u w/\Rel g w r u:=by
 unfold ta at h;cases ha with
 |ptr o off b base hi=>
  cases hv;obtain ⟨x,s1,hx,h⟩:=bind_some h;obtain ⟨hx,hh,hn⟩:=iu hx;obtain ⟨b',base',hi',_,hrel⟩:=aB.obj o x hx;rw [hi] at hi';cases hi';cases x with
  |row cells k s et=>
   obtain ⟨fE,_⟩:=sk h;obtain ⟨cs,fr,h1,h2,h3,_⟩:=hrel;exact Fp (P:=P) (g:=g) (w:=w) (b:=b) (off:=base+off) (fun j a hj=>by rw [zz6] at hj;obtain ⟨c,hc,hr⟩:=h3 _ a hj;exact ⟨c,by rw [jr h1,zyk];exact hc,hr⟩) fE
  |map es=>cases h
  |loop=>cases h
 |fe l b off c hc hr=>
  cases hv;obtain ⟨fE,e⟩:=sk h;exact Fp (P:=P) (fun j a hj=>⟨c j,(hc j a hj).2,hr j a hj⟩) fE
 |_=>exact (aa3 h).elim
def wm (tmps:Array Value) (r:ResultVar):Sem Value:=
 match r with
 |.tmp t=>pure (tmps.getD t undef)
 |.cell a t=>do loadVar t (<- asAddr (tmps.getD a undef))
theorem aoi (fn:Func) (tmps:Array Value):results fn tmps=(do
 let vs <- fn.results.mapM (wm tmps)
 pure (if h:vs.size=1 then vs[0] else .tuple vs)):=rfl
def i5 (g:Gh) (h:Tr bo) (b:Nat):Prop:=∀ o base,(h.get o).isSome=true->g.inj o≠some (b,base)
theorem i5.step {g h w lo hi g' h' w' b} (s:Step g h w lo hi g' h' w') (hb:b<w.heap.size) (hu:i5 g h b):i5 g' h' b/\w'.heap[b]? = w.heap[b]? :=
 ⟨fun o base ho hj=>by
  rcases s.own o b base ho hj with hge|⟨o',base',bQ,hj'⟩
  ·omega
  ·exact hu o' base' bQ hj',s.frame b hb hu⟩
def mark (b:Nat):Deferred:={ target:=.collected b,args:=#[] }
def Marks (D:List Deferred) (n0:Nat) (h:Tr bo) (g:Gh) (w:World) (ds:List Deferred):Prop:=
 ∃ bs:List Nat,ds=bs.map mark++D/\bs.Nodup/\∀ b ∈ bs,n0<=b/\w.heap[b]? = some (.deferred (some []))/\i5 g h b
theorem Marks.nil (n0 h g w):Marks [] n0 h g w []:=⟨[],rfl,List.nodup_nil,fun b hb=>by cases hb⟩
theorem Marks.start (D:List Deferred) (n0 h g w):Marks D n0 h g w D:=⟨[],rfl,List.nodup_nil,fun b hb=>by cases hb⟩
theorem Marks.step {D n0 g h w lo hi g' h' w' ds} (s:Step g h w lo hi g' h' w') (hm:Marks D n0 h g w ds):Marks D n0 h' g' w' ds:=by obtain ⟨bs,h1,h2,h3⟩:=hm;refine ⟨bs,h1,h2,fun b hb=>?_⟩;obtain ⟨q1,q2,q3⟩:=h3 b hb;have:=i5.step s (bu q2) q3;exact ⟨q1,this.2.trans q2,this.1⟩
theorem Ok.D2 {g h w b} {ds ds':Option (List Deferred)} (aB:Ok g h w) (hb:w.heap[b]? = some (.deferred ds)) (hu:i5 g h b):Ok g h (g7 w b (.deferred ds'))/\(∀ a v,Rel g w a v->Rel g (g7 w b (.deferred ds')) a v):=by
 have aG:Ext g w g (g7 w b (.deferred ds')):=by
  refine ⟨rfl,fun _ _ h=>h,fun _ _ h=>h,fun c j hj=>?_,fun c cs e fr hc=>?_,fun c l hc=>?_,fun c cs e fr hc _=>ey w (.deferred ds') (by intro e;subst e;rw [hb] at hc;cases hc)⟩
  ·by_cases e:c=b
   ·subst e;simp [World.cell?,ir _ (bu hb),hb]
   ·exact o8 (ey w (.deferred ds') e)
  ·exact ⟨cs,fr,(ey w (.deferred ds') (by intro e;subst e;rw [hb] at hc;cases hc)).trans hc,rfl⟩
  ·exact ⟨l,(ey w (.deferred ds') (by intro e;subst e;rw [hb] at hc;cases hc)).trans hc⟩
 refine ⟨⟨by rw [lf];exact aB.size,fun o x hx=>?_,aB.sep,fun c j hj=>by rw [lf];exact aB.K c j hj⟩,fun a v h=>h.ext aG⟩;refine (aB.mn o x hx).imp id ?_;rintro ⟨c,base,h1,h2,h3⟩;exact ⟨c,base,h1,h2,h3.ext aG (ey w (.deferred ds') (fun e=>hu o base (by rw [hx];rfl) (by rw [<- e];exact h1))) (fun _ h=>h)⟩
theorem Step.ayn {g0 h0 w0 lo hi g h w b ds'} (fD:Ok g0 h0 w0) (s:Step g0 h0 w0 lo hi g h w) (hb:w0.heap.size<=b):Step g0 h0 w0 lo hi g h (g7 w b (.deferred ds')):=by
 have ne:∀ c,c<w0.heap.size->c≠b:=fun c hc e=>by omega
 refine ⟨⟨s.ext.b0,s.ext.inj,s.ext.K,fun c j hj=>?_,fun c cs e fr hc=>?_,fun c l hc=>?_,fun c cs e fr hc hK=>(ey w _ (ne c (bu hc))).trans (s.ext.whole c cs e fr hc hK)⟩,by rw [lf];exact s.size,s.os,s.tape,s.output,fun c hc hn=>?_,s.fresh,s.own,s.n8⟩
 ·rw [o8 (ey w _ (ne c (fD.K c j hj)))];exact s.ext.cell c j hj
 ·rw [ey w _ (ne c (bu hc))];exact s.ext.sv c cs e fr hc
 ·rw [ey w _ (ne c (bu hc))];exact s.ext.lp c l hc
 ·rw [ey w _ (ne c hc)];exact s.frame c hc hn
def sm:Ex->Exit
 |.normal=>.normal
 |.exit id=>.exit id
 |.ret=>.ret
theorem sq {P:Program} [KP P] {f:Nat} (h:nq P f=true) (args:Array Value) (w:World):(callFunc f args).run P w = .ok (.enter f args) w:=by
 unfold nq at h;cases hf:P.funcs[f]? with
 |none=>rw [hf] at h;cases h
 |some fn=>
  rw [hf] at h;simp only [zzh,zyd] at h;obtain ⟨h1,h2⟩:=h;have hb:¬ fn.body=none:=by intro e;rw [e] at h1;cases h1
  have hn:¬ fn.name = "runtime.NumGoroutine" := by simpa using h2
  simp [callFunc,program,Sem.run,hf,hn,hb]
theorem Hs {o:Oper} {c:Call} (h:o.op = .call c):∀ d,o.op ≠ .defer d:=by intro d e;rw [h] at e;cases e
theorem lh (ro:Option Nat) (P:Program) (o:Oper) (a:Act) (w:World):∀ f,o.about P w a.eval=some f->(ft ro).fn f:=fun _ _=>trivial
theorem G8 {P:Program} [KP P] {o:Oper} {f:Operand} {args:Array Operand} {ts:Array TypeId} {ρ:Operand->Value} {h:Nat} {first captured:Array Value} (ho:o.op = .call { callee:=.value f,args,argTypes:=ts })
 (hf : ρ f = .func (.func h) first captured) (w:World):(execOp ρ o).run P w=(callFunc h (first++args.map ρ++captured)).run P w:=by
 simp [execOp,ho,resolve,hf,Deferred.ofValue,invoke]
variable [TK]
noncomputable section
abbrev SL:=List (Nat × AV)
noncomputable def lk (L:SL) (t:Nat):AV:=List.rec (motive:=fun _=>AV) .bad (fun p _ ih=>Bool.rec (motive:=fun _=>AV) ih p.2 (Nat.beq p.1 t)) L
def dw (L:SL) (x:Operand):AV:=
 Operand.rec (motive:=fun _=>AV) (fun t=>lk L t) (fun v=>.sc v) (fun g=>.sc (.pointer (some ⟨g,0,none⟩))) (fun f=>.sc (.func (.func f) #[] #[])) x
abbrev QL:=Ex->SL->St->Prop
def oq (d:Option Tmp) (v:AV) (L:SL):SL:=
 match d with
 |none=>L
 |some d=>(d,v)::L
abbrev eh:=List (Nat × Bool × (List AV->M AV))
def eh.find:eh->Nat->Option (Bool × (List AV->M AV))
 | [],_=>none
 |(g,m)::r,f=>bif Nat.beq g f then some m else eh.find r f
def wc (T:eh) (f:Nat) (args:List AV):M AV:=
 match T.find f with
 |some (_,m)=>mono (m args)
 |none=>.fail
def ag7 (T:eh) (g:Fn) (args:List AV):M AV:=
 match g with
 |.func g=>wc T g args
 |_=>.fail
def x6 (T:eh) (f:AV) (args:List AV):M AV:=
 match f with
 |.fn g first captured=>ag7 T g (first++args++captured)
 |.sc x=>
  match x with
  |.func g first captured=>ag7 T g (first.toList.map .sc++args++captured.toList.map .sc)
  |_=>.fail
 |_=>.fail
def gz (P:Program) (T:eh) (o:Oper) (ρ:Operand->AV):M AV:=
 match o.op with
 |.call { callee:=.value f,args,.. }=>x6 T (ρ f) (args.toList.map ρ)
 |_=>mono (aop P o ρ)
def Jy (r:Option (AV × St)) (d:Option Tmp) (L:SL) (K:SL->St->Prop):Prop:=
 match r with
 |some (v,st)=>K (oq d v L) st
 |none=>False
def re (a:AV) (x y:Prop):Prop:=
 match a.bool with
 |some v=>(v=true->x)/\(v=false->y)
 |none=>False
def wi (ops:Array Oper) (j:Nat):Nat:=((ops[j]?).bind (·.dst)).getD 0
def H9 (c:Bool) (v:Value):Bool:=
 match v with
 |.bool b=>b == c
 |_=>false
def D6 (a:AV) (c:Bool):Option Bool:=a.exact.map (H9 c)
def Bk (o:Option Bool) (x y:Prop):Prop:=
 match o with
 |some b=>(b=true->x)/\(b=false->y)
 |none=>False
def guarded (ops:Array Oper) (L:SL) (gd:Option (Nat × Bool)) (x y:Prop):Prop:=
 match gd with
 |none=>x
 |some (j,c)=>Bk (D6 (lk L (wi ops j)) c) x y
def wa (a:AV) (X Y:SL->St->Prop) (L:SL) (st:St):Prop:=re a (X L st) (Y L st)
def Gs (a:AV) (c:Bool) (X Y:SL->St->Prop) (L:SL) (st:St):Prop:=Bk (D6 a c) (X L st) (Y L st)
def z7 (ops:Array Oper) (gd:Option (Nat × Bool)) (X Y:SL->St->Prop) (L:SL) (st:St):Prop:=guarded ops L gd (X L st) (Y L st)
def Y1 (f:AV) (args:List AV):Option (Nat × List AV):=
 match f with
 |.fn g first captured=>
  match g with
  |.func g=>some (g,first++args++captured)
  |_=>none
 |.sc x=>
  match x with
  |.func g first captured=>
   match g with
   |.func g=>some (g,first.toList.map .sc++args++captured.toList.map .sc)
   |_=>none
  |_=>none
 |_=>none
def k8 (P:Program) (f:Nat) (args:List AV) (st:St) (R:AV->St->Prop):Prop:=
 ∀ (g:Gh) (w:World) (vs:List Value),Ok g st.h w->(∀ o,st.nx<=o->g.inj o=none)->bt g w args vs ->
  (∃ v w' g' r aA,(callFunc f vs.toArray).run P w = .ok (.value v) w'/\R r aA/\st.nx<=aA.nx/\Step g st.h w st.nx aA.nx g' aA.h w'/\Ok g' aA.h w'/\Rel g' w' r v) \/
  ((
   callFunc f vs.toArray).run P w = .ok (.enter f vs.toArray) w /\
   Calls P f vs.toArray w (fun e w'=>∃ v g' r aA,e = .returned v/\R r aA/\st.nx<=aA.nx/\Step g st.h w st.nx aA.nx g' aA.h w'/\Ok g' aA.h w'/\Rel g' w' r v))
def fu (K:SL->St->Prop) (d:Option Tmp) (L:SL):AV->St->Prop:=fun r st=>K (oq d r L) st
def apk (P:Program) (c:Option (Nat × List AV)) (d:Option Tmp) (L:SL) (st:St) (K:SL->St->Prop):Prop:=
 match c with
 |some (f,args)=>k8 P f args st (fu K d L)
 |none=>False
def P7 (P:Program) (o:Oper) (L:SL) (st:St) (K:SL->St->Prop):Prop:=
 match o.op with
 |.call { callee:=.value f,args,.. }=>apk P (Y1 (dw L f) (args.toList.map (dw L))) o.dst L st K
 |_=>False
def Gm (r:Option (AV × St)) (P:Program) (o:Oper) (L:SL) (st:St) (K:SL->St->Prop):Prop:=
 match r with
 |some (v,aA)=>K (oq o.dst v L) aA
 |none=>P7 P o L st K
def Tn (P:Program) (T:eh) (o:Oper) (K:SL->St->Prop) (L:SL) (st:St):Prop:=Gm (gz P T o (dw L) st) P o L st K
def Jh (d:Option Tmp) (K:SL->St->Prop) (L:SL) (st:St):Prop:=K (oq d (.sc undef) L) st
def opsL (P:Program) (T:eh) (ops:Array Oper):List Oper->(SL->St->Prop)->SL->St->Prop
 | [],K=>K
 |o::r,K=>z7 ops o.guard (Tn P T o (opsL P T ops r K)) (Jh o.dst (opsL P T ops r K))
def AV.names:AV->List Nat
 |.agg l=>go l
 |.gn l=>go l
 |.sl o _ _ _=>[o]
 |.ptr o _=>[o]
 |.fn _ a b=>go a++go b
 |.mp o=>[o]
 |.tf _ v=>v.names
 |.yl o=>[o]
 |_=>[]
where go:List AV->List Nat
 | []=>[]
 |a::r=>a.names++go r
def bo.names:bo->List Nat
 |.row cells _ _ _=>AV.names.go cells
 |.map es=>AV.names.go (es.map (·.2))
 |.loop .. => []
def reach (h:Tr bo):Nat->List Nat->List Nat->List Nat
 |0,_,acc=>acc
 |_+1,[],acc=>acc
 |n+1,o::r,acc=>
  bif acc.contains o then reach h n r acc
  else
   match h.get o with
   |some x=>reach h n (x.names++r) (acc++[o])
   |none=>reach h n r acc
def j7 (h:Tr bo):List Nat->Tr bo
 | []=>.nil
 |o::r=>Tr.set depth (j7 h r) o (h.get o)
def vm (h1:Tr bo):List Nat->Tr bo->Tr bo
 | [],h=>h
 |o::r,h=>Tr.set depth (vm h1 r h) o (h1.get o)
def dz (lo:Nat):Nat->List Nat
 |0=>[]
 |n+1=>lo::dz (lo+1) n
structure Rec where
 R:List Nat
 W:List Nat
def sw (T:eh) (ρ:Operand->AV) (o:Oper):Bool:=
 match o.op with
 |.store .. | .mapUpdate .. | .insert .. => false
 |.call { callee:=.builtin b,.. }=>
  match b with
  |.append|.copy|.delete|.unsafeString=>false
  |_=>true
 |.call { callee:=.value f,.. }=>
  match ρ f with
  |.fn (.func g) _ _=>match T.find g with|some (b,_)=>b|none=>false
  |.sc (.func (.func g) _ _)=>match T.find g with|some (b,_)=>b|none=>false
  |_=>false
 |_=>true
def dj (o:Oper) (L:SL):Operand->AV
 |.tmp t=>bif o.op.operands.any (fun x=>match x with|.tmp u=>Nat.beq u t|_=>false) then lk L t else .bad
 |.const v=>.sc v
 |.global g=>.sc (.pointer (some ⟨g,0,none⟩))
 |.func f=>.sc (.func (.func f) #[] #[])
def same (h h':Tr bo):List Nat->Prop
 | []=>True
 |o::r=>h.get o=h'.get o/\same h h' r
def z8 (o:Nat) (l:List Nat):Bool:=List.rec (motive:=fun _=>Bool) false (fun x _ ih=>Bool.rec (motive:=fun _=>Bool) ih true (Nat.beq x o)) l
def ua (a b:List Nat):Bool:=List.rec (motive:=fun _=>Bool) true (fun _ _ _=>List.rec (motive:=fun _=>Bool) true (fun x _ ih=>Bool.rec (motive:=fun _=>Bool) ih false (z8 x b)) a) b
theorem zk (o:Nat):∀ l:List Nat,z8 o l=true↔o ∈ l
 | []=>by simp [z8]
 |x::l=>by
  show (Bool.rec _ _ (Nat.beq x o):Bool)=true↔_;have ih:=zk o l;cases hb:Nat.beq x o with
  |true=>have:=zzg hb;subst this;simp
  |false=>
   have:x≠o:=fun e=>by subst e;simp at hb
   show z8 o l=true↔_;rw [ih,zya];exact ⟨.inr,fun h=>h.resolve_left (fun e=>this e.symm)⟩
theorem aqh (a b:List Nat):ua a b=true↔∀ o ∈ a,o ∉ b:=by
 cases b with
 |nil=>simp [ua]
 |cons y b=>
  show (List.rec (motive:=fun _=>Bool) true (fun x _ ih=>Bool.rec (motive:=fun _=>Bool) ih false (z8 x (y::b))) a:Bool)=true↔_;generalize y::b=l
  induction a with
  |nil=>simp
  |cons x a ih=>
   show (Bool.rec _ _ (z8 x l):Bool)=true↔_;cases hb:z8 x l with
   |true=>
    have:=(zk x l).1 hb;simp [this]
   |false=>
    have hn:x ∉ l:=fun h=>by rw [(zk x l).2 h] at hb;cases hb
    show (List.rec _ _ a:Bool)=true↔_;rw [ih];simp [hn]
def Kq (before:Array Nat) (i j:Nat) (a b:Rec):Bool:=(ua a.W b.R && ua a.W b.W && ua a.R b.W) || (before.getD j 0).testBit i
def Qb (before:Array Nat) (i:Nat) (a:Rec):Nat->List Rec->Bool
 |_,[]=>true
 |j,b::r=>Kq before i j a b && Qb before i a (j+1) r
def ga (before:Array Nat):Nat->List Rec->Bool
 |_,[]=>true
 |i,a::r=>Qb before i a (i+1) r && ga before (i+1) r
def Bl (ops:Array Oper) (o:Oper):List Nat:=
 o.dst.toList++(o.op.operands.toList.filterMap fun x=>match x with|.tmp u=>some u|_=>none)++(match o.guard with|some (j,_)=>[wi ops j]|none=>[])
def Nv (ops:Array Oper):Bool:=
 ops.toList.zipIdx.all (fun q=>(Bl ops q.1).all fun t=>ops.toList.zipIdx.all fun p=>(match p.1.dst with|some d=>!(Nat.beq d t)|none=>true) || Nat.beq p.2 q.2 || ((Region.before ops).getD (max p.2 q.2) 0).testBit (min p.2 q.2)) &&
 ops.toList.zipIdx.all (fun q=>q.1.after.all fun e=>!(Region.binds .any e) || Nat.blt e.on q.2)
def fj:Nat:=60
def jo (o:Op):Bool:=
 match o with
 |.move _=>true
 |.assign _=>true
 |.fieldAddr .. => true
 |.nilCheck _=>true
 |.pick .. => true
 |.extract .. => true
 |.indexAddr .. => true
 |.binOp .. => true
 |.call { callee:=.builtin .len,.. }=>true
 |_=>false
def lq (o:Oper) (L:SL) (st:St):List Nat:=
 bif jo o.op then [] else
 match o.op with
 |.load _ a=>(dj o L a).names
 |.store _ a _=>(dj o L a).names
 |_=>reach st.h fj (AV.names.go (o.op.operands.toList.map (dj o L))) []
def adq (P:Program) (T:eh) (o:Oper) (recs:List Rec) (K:List Rec->SL->St->Prop) (L:SL) (st:St):Prop:=
 ∃ (F W:List Nat) (v:AV) (gi:St),gz P T o (dj o L) { h:=j7 st.h F,nx:=st.nx,rl:=[],wl:=[] }=some (v,gi)/\(∀ q ∈ W,q ∈ F)/\(∀ q ∈ F,q ∉ W->(j7 st.h F).get q=gi.h.get q)/\(∀ q ∈ F,q<st.nx)/\gi.nx<=c9 /\
  K (recs++[⟨F,W++dz st.nx (gi.nx - st.nx)⟩]) (oq o.dst v L) { h:=vm gi.h (F++dz st.nx (gi.nx - st.nx)) st.h,nx:=gi.nx,rl:=[],wl:=[] }
def Hy (n:Nat):List Nat->Bool
 | []=>true
 |o::r=>Nat.blt o n && Hy n r
def Gb (ro:Bool) (F:List Nat) (o:Oper) (recs:List Rec) (K:List Rec->SL->St->Prop) (L:SL) (st:St) (r:Option (AV × St)):Prop:=
 match r with
 |some (v,gi)=>(Hy st.nx F=true/\Nat.ble gi.nx c9=true)/\same (j7 st.h F) gi.h (bif ro then F else []) /\
  K (recs++[⟨F,(bif ro then [] else F)++dz st.nx (gi.nx - st.nx)⟩]) (oq o.dst v L) { h:=vm gi.h (F++dz st.nx (gi.nx - st.nx)) st.h,nx:=gi.nx,rl:=[],wl:=[] }
 |none=>False
def kz (P:Program) (T:eh) (o:Oper) (recs:List Rec) (K:List Rec->SL->St->Prop) (L:SL) (st:St) (F:List Nat):Prop:=
 Gb (sw T (dj o L) o) F o recs K L st (gz P T o (dj o L) { h:=j7 st.h F,nx:=st.nx,rl:=[],wl:=[] })
def fv (P:Program) (T:eh) (o:Oper) (recs:List Rec) (K:List Rec->SL->St->Prop) (L:SL) (st:St):Prop:=kz P T o recs K L st (lq o L st)
theorem ah5 {n:Nat}:∀ {l:List Nat},Hy n l=true->∀ q ∈ l,q<n
 | [],_,q,hq=>by cases hq
 |o::r,h,q,hq=>by
  simp only [Hy,zzh] at h;rcases zya.1 hq with rfl|hq
  ·simpa using h.1
  ·exact ah5 h.2 q hq
theorem alr {h h':Tr bo}:∀ {l:List Nat},same h h' l->∀ q ∈ l,h.get q=h'.get q
 | [],_,q,hq=>by cases hq
 |o::r,hs,q,hq=>by
  rcases zya.1 hq with rfl|hq
  ·exact hs.1
  ·exact alr hs.2 q hq
theorem aCp {P:Program} {T:eh} {o:Oper} {recs:List Rec} {K:List Rec->SL->St->Prop} {L:SL} {st:St} (h:fv P T o recs K L st):adq P T o recs K L st:=by
 unfold fv kz Gb at h
 split at h
 ·rename_i v gi he;obtain ⟨⟨h1,h2⟩,h3,h4⟩:=h;refine ⟨_,_,v,gi,he,?_,?_,ah5 h1,zB h2,h4⟩
  ·intro q hq;cases hb:sw T (dj o L) o with
   |true=>rw [hb] at hq;cases hq
   |false=>rw [hb] at hq;exact hq
  ·intro q hq hn;cases hb:sw T (dj o L) o with
   |true=>rw [hb] at h3;exact alr h3 q hq
   |false=>rw [hb] at hn;exact (hn hq).elim
 ·exact h.elim
def asy (ops:Array Oper) (K:SL->St->Prop) (recs:List Rec) (L:SL) (st:St):Prop:=ga (Region.before ops) 0 recs=true/\K L st
def G0 (P:Program) (T:eh) (ops:Array Oper):List Oper->(SL->St->Prop)->List Rec->SL->St->Prop
 | [],K=>asy ops K
 |o::r,K=>fun recs=>z7 ops o.guard (fv P T o recs (G0 P T ops r K)) (Jh o.dst (G0 P T ops r K (recs++[⟨[],[]⟩])))
def Oz (P:Program) (T:eh) (ops:Array Oper):List Oper->(SL->St->Prop)->List Rec->SL->St->Prop
 | [],K=>asy ops K
 |o::r,K=>fun recs=>z7 ops o.guard (adq P T o recs (Oz P T ops r K)) (Jh o.dst (Oz P T ops r K (recs++[⟨[],[]⟩])))
def F2 (P:Program) (T:eh) (ops:Array Oper) (draw:Bool) (K:SL->St->Prop) (L:SL) (st:St):Prop:=
 match draw with
 |true=>Nv ops=true/\(G0 P T ops ops.toList K [] L st\/Oz P T ops ops.toList K [] L st)
 |false=>opsL P T ops ops.toList K L st
def idx (l:List Nat) (o:Nat):Nat->Option Nat:=
 List.rec (motive:=fun _=>Nat->Option Nat) (fun _=>none) (fun a _ ih i=>bif Nat.beq a o then some i else ih (i+1)) l
def AV.da (τ:Nat->Option Nat):AV->AV
 |.agg l=>.agg (go τ l)
 |.gn l=>.gn (go τ l)
 |.vl loc sz es=>.vl loc sz (go τ es)
 |.sl o off len sz=>match τ o with|some p=>.sl p off len sz|none=>.bad
 |.ptr o off=>match τ o with|some p=>.ptr p off|none=>.bad
 |.fe l=>.fe (go τ l)
 |.fn f a b=>.fn f (go τ a) (go τ b)
 |.mp o=>match τ o with|some p=>.mp p|none=>.bad
 |.tf t v=>.tf t (v.da τ)
 |.yl _=>.bad
 |a=>a
where go (τ:Nat->Option Nat):List AV->List AV
 | []=>[]
 |a::r=>a.da τ::go τ r
def bo.da (τ:Nat->Option Nat):bo->Option bo
 |.row cells k s e=>some (.row (AV.da.go τ cells) k s e)
 |.map es=>some (.map (es.map fun e=>(e.1,e.2.da τ)))
 |.loop .. => none
def oo (h:Tr bo):List Nat->List Nat
 | []=>[]
 |o::r=>(match h.get o with|some x=>x.names|none=>[])++oo h r
def ik (bb:Nat) (keep:List Nat) (L:SL) (st:St):List Nat:=reach st.h fj (AV.names.go (keep.map (lk L))++oo st.h (dz 0 bb)) (dz 0 bb)
def ij (bb:Nat) (keep:List Nat) (L:SL) (st:St):List AV:=AV.da.go (fun o=>idx (ik bb keep L st) o 0) (keep.map (lk L))
def jc (h:Tr bo) (τ:Nat->Option Nat):List Nat->List (Option bo)
 | []=>[]
 |o::r=>(h.get o).bind (bo.da τ)::jc h τ r
def fl (bb:Nat) (keep:List Nat) (L:SL) (st:St):List (Option bo):=jc st.h (fun o=>idx (ik bb keep L st) o 0) (ik bb keep L st)
def l6:Nat->List (Option bo)->Tr bo
 |_,[]=>.nil
 |i,x::r=>Tr.set depth (l6 (i+1) r) i x
def bh (os:List (Option bo)):St:={ h:=l6 0 os,nx:=os.length,rl:=[],wl:=[] }
def iz:List Nat->List AV->SL
 |t::ts,v::vs=>(t,v)::iz ts vs
 |_,_=>[]
def xl (bb:Nat) (keep:List Nat) (X:List AV->List (Option bo)->Prop) (Q:QL):QL:=fun e L st=>
 match e with
 |.normal=>X (ij bb keep L st) (fl bb keep L st)
 |e=>Q e L st
def jh (bb:Nat) (vs:List AV) (os:List (Option bo)) (vs':List AV) (os':List (Option bo)):Prop:=
 vs'.length=vs.length/\(bb<=os.length->bb<=os'.length)/\∀ (g:Gh) (w:World) (us:List Value),Ok g (bh os).h w->(∀ o,os.length<=o->g.inj o=none)->bt g w vs us->∃ g',Ok g' (bh os').h w/\bt g' w vs' us/\g'.b0=g.b0/\(∀ o,os'.length<=o->g'.inj o=none)/\(∀ o,o<bb->g'.inj o=g.inj o)/\(∀ b j,g.K b j->g'.K b j) /\
  (∀ o b base,((bh os').h.get o).isSome=true->g'.inj o=some (b,base)->∃ o2 aI,((bh os).h.get o2).isSome=true/\g.inj o2=some (b,aI))/\(∀ b j,g'.K b j->g.K b j\/∃ o base,((bh os).h.get o).isSome=true/\g.inj o=some (b,base))
theorem jh.refl (bb vs os):jh bb vs os vs os:=⟨rfl,id,fun g _ _ h1 hf h2=>⟨g,h1,h2,rfl,hf,fun _ _=>rfl,fun _ _ h=>h,fun o b base h h'=>⟨o,base,h,h'⟩,fun _ _ h=>.inl h⟩⟩
theorem jh.trans {bb vs os vs' os' lB lG} (h:jh bb vs os vs' os') (k:jh bb vs' os' lB lG):jh bb vs os lB lG:=by
 refine ⟨k.1.trans h.1,fun q=>k.2.1 (h.2.1 q),fun g w us h1 hf h2=>?_⟩;obtain ⟨g1,a1,a2,a3,a4,a5,a6,a7,a8⟩:=h.2.2 g w us h1 hf h2;obtain ⟨g2,b1,b2,b3,b4,b5,b6,b7,b8⟩:=k.2.2 g1 w us a1 a4 a2;refine ⟨g2,b1,b2,b3.trans a3,b4,fun o ho=>(b5 o ho).trans (a5 o ho),fun b j q=>b6 b j (a6 b j q),fun o b base q q'=>?_,fun b j q=>?_⟩
 ·obtain ⟨o2,aI,c1,c2⟩:=b7 o b base q q';exact a7 o2 b aI c1 c2
 ·rcases b8 b j q with c|⟨o,base,c1,c2⟩
  ·exact a8 b j c
  ·exact .inr (a7 o b base c1 c2)
def upW (bb:Nat) (X:List AV->List (Option bo)->Prop) (vs:List AV) (os:List (Option bo)):Prop:=∃ vs' os',jh bb vs os vs' os'/\X vs' os'
def tx (bb:Nat) (B:QL->SL->St->Prop) (Q:QL) (L:SL) (st:St):Prop:=
 ∃ keep:List Nat,∀ X:List AV->List (Option bo)->Prop,(∀ vs os,B (xl bb keep (upW bb X) Q) (iz keep vs) (bh os)->X vs os)->upW bb X (ij bb keep L st) (fl bb keep L st)
def Ik (W:QL->SL->St->Prop) (Q:QL):QL:=fun e L st=>
 match e with
 |.normal=>W Q L st
 |e=>Q e L st
def Li (id:Nat) (Q:QL):QL:=fun e L st=>
 match e with
 |.exit j=>bif Nat.beq j id then Q .normal L st else Q (.exit j) L st
 |e=>Q e L st
def cg:Nat->List AV->SL
 |_,[]=>[]
 |i,a::r=>(i,a)::cg (i+1) r
abbrev QI:=Ex->Option Ex->SL->St->Prop
abbrev Ju:=Nat->List AV->(Ex->St->Prop)->St->Prop
def Dk (l:Nat) (a:AV):Bool:=
 match a with
 |.sc v=>
  match v with
  |.func f va vb=>
   match f with
   |.yield k=>Nat.beq k l && Nat.beq va.size 0 && Nat.beq vb.size 0
   |_=>false
  |_=>false
 |_=>false
def yieldOf (l:Nat) (o:Oper) (L:SL):Option (Array Operand):=
 match o.op with
 |.call { callee:=.value f,args,.. }=>bif Dk l (dw L f) then some args else none
 |_=>none
def aff (d:Option Tmp) (L:SL) (K:Option Ex->SL->St->Prop) (e:Ex) (st:St):Prop:=
 match e with
 |.normal=>K none (oq d (.sc (.bool true)) L) st
 |e=>K (some e) (oq d (.sc (.bool false)) L) st
def B5 (R:Ju) (p:Nat) (args:Array Operand) (d:Option Tmp) (K:Option Ex->SL->St->Prop) (L:SL) (st:St):Prop:=
 R p (args.toList.map (dw L)) (aff d L K) st
def Yd (P:Program) (T:eh) (R:Ju) (bb:Nat) (o:Oper) (K:Option Ex->SL->St->Prop) (pe:Option Ex) (L:SL) (st:St) (y:Option (Array Operand)):Prop:=
 match y with
 |none=>Jy (gz P T o (dw L) st) o.dst L (K pe)
 |some args=>pe=none/\∃ keep:List Nat,B5 R (fl bb keep L st).length args o.dst K (iz keep (ij bb keep L st)) (bh (fl bb keep L st))
def opI (P:Program) (T:eh) (l:Nat) (R:Ju) (bb:Nat) (o:Oper) (K:Option Ex->SL->St->Prop) (pe:Option Ex) (L:SL) (st:St):Prop:=Yd P T R bb o K pe L st (yieldOf l o L)
def aeu (a:AV) (c:Bool) (X Y:Option Ex->SL->St->Prop) (pe:Option Ex) (L:SL) (st:St):Prop:=Bk (D6 a c) (X pe L st) (Y pe L st)
def K0 (ops:Array Oper) (gd:Option (Nat × Bool)) (X Y:Option Ex->SL->St->Prop) (pe:Option Ex) (L:SL) (st:St):Prop:=guarded ops L gd (X pe L st) (Y pe L st)
def Dt (a:AV) (X Y:Option Ex->SL->St->Prop) (pe:Option Ex) (L:SL) (st:St):Prop:=re a (X pe L st) (Y pe L st)
def Ys (d:Option Tmp) (K:Option Ex->SL->St->Prop) (pe:Option Ex) (L:SL) (st:St):Prop:=K pe (oq d (.sc undef) L) st
def G1 (P:Program) (T:eh) (l:Nat) (R:Ju) (bb:Nat) (ops:Array Oper):List Oper->(Option Ex->SL->St->Prop)->Option Ex->SL->St->Prop
 | [],K=>K
 |o::r,K=>K0 ops o.guard (opI P T l R bb o (G1 P T l R bb ops r K)) (Ys o.dst (G1 P T l R bb ops r K))
def aer (W:QI->Option Ex->SL->St->Prop) (Q:QI):QI:=fun e pe L st=>
 match e with
 |.normal=>W Q pe L st
 |e=>Q e pe L st
def Tq (id:Nat) (Q:QI):QI:=fun e pe L st=>
 match e with
 |.exit j=>bif Nat.beq j id then Q .normal pe L st else Q (.exit j) pe L st
 |e=>Q e pe L st
def Cg (Q':QL) (Q:QI):QI:=fun e pe L st=>
 match e with
 |.normal=>pe=none/\Q' .normal L st
 |e=>Q e pe L st
def qd (P:Program) (T:eh) (l:Nat) (R:Ju) (bb:Nat):Code->QI->Option Ex->SL->St->Prop
 |.skip,Q,pe,L,st=>Q .normal pe L st
 |.label _,Q,pe,L,st=>Q .normal pe L st
 |.region _ ops false,Q,pe,L,st=>G1 P T l R bb ops ops.toList (Q .normal) pe L st
 |.region _ ops true,Q,pe,L,st=>F2 P T ops true (Q .normal pe) L st
 |.seq a b,Q,pe,L,st=>qd P T l R bb a (aer (qd P T l R bb b) Q) pe L st
 |.cond c a b,Q,pe,L,st=>Dt (dw L c) (qd P T l R bb a Q) (qd P T l R bb b Q) pe L st
 |.block id b,Q,pe,L,st=>qd P T l R bb b (Tq id Q) pe L st
 |.loop b,Q,pe,L,st=>pe=none/\tx bb (fun Q' L st=>qd P T l R bb b (Cg Q' Q) none L st) (fun _ _ _=>False) L st
 |.exit id,Q,pe,L,st=>Q (.exit id) pe L st
 |.ret,Q,pe,L,st=>Q .ret pe L st
 |_,_,_,_,_=>False
structure NT where
 n:Nat
 fix:List (Nat × Value):=[]
instance:Coe Nat NT:=⟨fun n=>{ n }⟩
def NT.has (nt:NT) (t:Nat):Bool:=Nat.blt t nt.n && nt.fix.all fun p=>!Nat.beq p.1 t
def rj (nt:NT) (ops:Array Oper):Bool:=ops.all fun o=>match o.guard with
 |none=>true
 |some (j,_)=>match (ops[j]?).bind (·.dst) with|some d=>Nat.blt d nt.n|none=>false
def xc (nt:NT) (ops:Array Oper):Bool:=ops.all fun o=>match o.dst with|none=>true|some d=>nt.has d
def _root_.Go.Code.ud:Code->Bool
 |.seq a b=>a.ud && b.ud
 |.cond _ a b=>a.ud && b.ud
 |.block _ b=>b.ud
 |.loop b=>b.ud
 |.scope b=>b.ud
 |.rangeFunc .. => false
 |_=>true
def ec (nt:NT):Code->Bool
 |.region _ ops _=>xc nt ops && rj nt ops
 |.seq a b=>ec nt a && ec nt b
 |.cond _ a b=>ec nt a && ec nt b
 |.block _ b=>ec nt b
 |.loop b=>ec nt b
 |.scope b=>ec nt b
 |.rangeFunc _ ps a b=>ps.all (fun t=>nt.has t) && ec nt a && ec nt b && a.ud && b.ud
 |_=>true
def Kd (a:AV):Option (Nat × List AV):=
 match a with
 |.fn f first captured=>
  match f,first with
  |.func g,[]=>some (g,captured)
  |_,_=>none
 |.sc v=>
  match v with
  |.func f first captured=>
   match f,first.toList with
   |.func g,[]=>some (g,captured.toList.map .sc)
   |_,_=>none
  |_=>none
 |_=>none
def D4 (P:Program) (g:Nat):Option (Nat × Code):=
 match P.funcs[g]? with
 |some fn=>
  match fn.body with
  |some body=>bif nq P g && ec fn.ntmps body && fn.results.isEmpty then some (fn.ntmps,body) else none
  |none=>none
 |none=>none
def C7:List Tmp->List AV->SL->SL
 |t::ts,v::vs,L=>C7 ts vs ((t,v)::L)
 |_,_,L=>L
def azq (B:QL->SL->St->Prop) (X:Ex->St->Prop):QL:=fun e L st=>
 match e with
 |.normal=>B (fun e _ st=>X e st) L st
 |_=>False
def oi (ps:List Tmp) (A B:Nat->QL->SL->St->Prop) (L0:SL):Ju:=fun p args X st=>
 Nat.beq args.length ps.length=true/\Nat.ble p 1000=true/\A p (azq (B p) X) (C7 ps args L0) st
def aec (Q:QL) (L0:SL):QI:=fun e pe _ st=>
 match e with
 |.exit _=>False
 |_=>
  match pe with
  |none=>Q .normal L0 st
  |some e=>Q e L0 st
def Oa (P:Program) (T:eh) (ps:List Tmp) (A B:Nat->QL->SL->St->Prop) (p:Nat) (Q:QL) (L0:SL) (st0:St) (bA:List AV) (c:Option (Nat × Code)):Prop:=
 match c with
 |some (nt,code)=>Nat.ble (bA.length+1) nt=true/\∀ l:Nat,qd P T l (oi ps A B L0) p code (aec Q L0) none (cg 0 (.sc (.func (.yield l) #[] #[])::bA)) st0
 |none=>False
def Ni (P:Program) (T:eh) (ps:List Tmp) (A B:Nat->QL->SL->St->Prop) (p:Nat) (Q:QL) (L0:SL) (st0:St) (f:Option (Nat × List AV)):Prop:=
 match f with
 |some (g,bA)=>Oa P T ps A B p Q L0 st0 bA (D4 P g)
 |none=>False
def av7 (P:Program) (T:eh) (f:Operand) (ps:List Tmp) (A B:Nat->QL->SL->St->Prop) (p:Nat) (Q:QL) (L0:SL) (st0:St):Prop:=
 Nat.ble p 1000=true/\Ni P T ps A B p Q L0 st0 (Kd (dw L0 f))
def auu (P:Program) (T:eh) (f:Operand) (ps:List Tmp) (A B:Nat->QL->SL->St->Prop) (bb:Nat) (Q:QL) (L:SL) (st:St):Prop:=
 ∃ keep:List Nat,av7 P T f ps A B (fl bb keep L st).length Q (iz keep (ij bb keep L st)) (bh (fl bb keep L st))
def wl (P:Program) (T:eh):Nat->Code->QL->SL->St->Prop
 |_,.skip,Q,L,st=>Q .normal L st
 |_,.label _,Q,L,st=>Q .normal L st
 |_,.region _ ops draw,Q,L,st=>F2 P T ops draw (Q .normal) L st
 |bb,.seq a b,Q,L,st=>wl P T bb a (Ik (wl P T bb b) Q) L st
 |bb,.cond c a b,Q,L,st=>wa (dw L c) (wl P T bb a Q) (wl P T bb b Q) L st
 |bb,.block id body,Q,L,st=>wl P T bb body (Li id Q) L st
 |bb,.loop body,Q,L,st=>tx bb (wl P T bb body) Q L st
 |bb,.scope body,Q,L,st=>wl P T bb body Q L st
 |_,.exit id,Q,L,st=>Q (.exit id) L st
 |_,.ret,Q,L,st=>Q .ret L st
 |bb,.rangeFunc f ps cK body,Q,L,st=>auu P T f ps.toList (fun p=>wl P T p cK) (fun p=>wl P T p body) bb Q L st
 |_,_,_,_,_=>False
def sg (P:Program) (L:SL) (st:St):List ResultVar->Option (List AV)
 | []=>some []
 |.tmp t::r=>(sg P L st r).map (lk L t :: ·)
 |.cell a t::r=>
  match ta P t (lk L a) st with
  |some (v,_)=>(sg P L st r).map (v :: ·)
  |none=>none
def E8 (r:Option (List AV)) (R:AV->St->Prop) (st:St):Prop:=
 match r with
 |some l=>R (pack l) st
 |none=>False
def c8 (P:Program) (rs:List ResultVar) (R:AV->St->Prop):QL:=fun e L st=>
 match e with
 |.exit _=>False
 |_=>E8 (sg P L st rs) R st
def AV.fresh:AV->Bool
 |.sc _=>true
 |.agg l=>go l
 |.gn l=>go l
 |.vl loc _ es=>loc && go es
 |.fn _ a b=>go a && go b
 |.tf _ v=>v.fresh
 |.ez=>true
 |_=>false
where go:List AV->Bool
 | []=>true
 |a::r=>a.fresh && go r
structure tl (nt:NT) (tmps:Array Value):Prop where
 size:tmps.size=nt.n
 fix:∀ p ∈ nt.fix,tmps.getD p.1 undef=p.2
theorem NT.J1 {nt:NT} {t:Nat} (h:nt.has t=true):t<nt.n/\∀ p ∈ nt.fix,p.1≠t:=by unfold NT.has at h;rw [zzh] at h;refine ⟨zB h.1,fun p hp e=>?_⟩;have:=zz8.1 h.2 p hp;rw [e] at this;simp at this
theorem tl.set {nt:NT} {tmps:Array Value} (h:tl nt tmps) {t:Nat} {u:Value} (ht:nt.has t=true):tl nt (tmps.setIfInBounds t u):=by obtain ⟨h1,h2⟩:=NT.J1 ht;refine ⟨by simp [h.size],fun p hp=>?_⟩;rw [zze,zzz,if_neg (fun e=>h2 p hp e.symm),<- zze];exact h.fix p hp
theorem tl.put {nt:NT} {a:Act} {dst:Option Tmp} {u:Value} (h:tl nt a.tmps) (hd:∀ d,dst=some d->nt.has d=true):tl nt (a.put dst u).tmps:=by
 cases dst with
 |none=>exact h
 |some d=>exact h.set (hd d rfl)
def i6 (g:Gh) (w:World) (nt:NT) (L:SL) (tmps:Array Value):Prop:=tl nt tmps/\∀ t,Rel g w (lk L t) (tmps.getD t undef)
theorem i6.ext {g w g' w'} (hx:Ext g w g' w') {nt L tmps} (h:i6 g w nt L tmps):i6 g' w' nt L tmps:=⟨h.1,fun t=>(h.2 t).ext hx⟩
theorem i6.eval {g w nt L} {a:Act} (h:i6 g w nt L a.tmps):n7 g w (dw L) a.eval:=by
 intro x;cases x with
 |tmp t=>exact h.2 t
 |const v=>exact .sc v
 |global g'=>exact .sc _
 |func f=>exact .sc _
theorem vu (d t:Nat) (v:AV) (r:SL):lk ((d,v)::r) t=if d=t then v else lk r t:=by
 show (Bool.rec (motive:=fun _=>AV) (lk r t) v (Nat.beq d t))=_;by_cases h:d=t
 ·subst h;rw [Nat.beq_refl,if_pos rfl]
 ·rw [if_neg h,qg h]
theorem i6.put {g w nt L} {a:Act} {dst:Option Tmp} {v:AV} {u:Value} (h:i6 g w nt L a.tmps) (hv:Rel g w v u) (hd:∀ d,dst=some d->nt.has d=true):i6 g w nt (oq dst v L) (a.put dst u).tmps:=by
 cases dst with
 |none=>exact h
 |some d=>
  have hd:=hd d rfl;refine ⟨h.1.set hd,fun t=>?_⟩;simp only [oq,vu,Act.put,zze,zzz];by_cases e:d=t
  ·subst e;rw [if_pos rfl,if_pos rfl,if_pos (by rw [h.1.size];exact (NT.J1 hd).1)];exact hv
  ·rw [if_neg e,if_neg e,<- zze];exact h.2 t
structure fh where
 b0:Nat
 w:World
 K:Nat->Nat->Prop
 O:Nat->Prop
 bb:Nat
 pb:Nat->Option (Nat × Nat)
 far:Nat->Prop:=fun _=>False
 n0:Nat
 D:List Deferred:=[]
structure tp (B:fh) (g:Gh) (h:Tr bo) (w:World):Prop where
 b0:g.b0=B.b0
 pins:∀ o,(o<B.bb\/B.far o)->g.inj o=B.pb o
 K:∀ b j,B.K b j->g.K b j
 cell:∀ b j,B.K b j->w.cell? ⟨b,j,none⟩=B.w.cell? ⟨b,j,none⟩
 size:B.w.heap.size<=w.heap.size
 os:w.os=B.w.os
 tape:w.tape=B.w.tape
 output:w.output=B.w.output
 frame:∀ b,b<B.w.heap.size->¬ B.O b->w.heap[b]? = B.w.heap[b]?
 own:∀ o b base,(h.get o).isSome=true->g.inj o=some (b,base)->B.w.heap.size<=b\/B.O b
 n8:∀ b j,g.K b j->B.K b j\/B.w.heap.size<=b\/B.O b
 sv:∀ (b:Nat) (cs:Array Value) (e:TypeId) (fr:Nat × Nat),B.w.heap[b]? = some (Obj.cells cs e fr)->∃ (cs':Array Value) (cI:Nat × Nat),w.heap[b]? = some (Obj.cells cs' e cI)/\cs'.size=cs.size
 lp:∀ (b:Nat) (l:Loop),B.w.heap[b]? = some (Obj.loop l)->∃ l',w.heap[b]? = some (Obj.loop l')
 whole:∀ (b:Nat) (cs:Array Value) (e:TypeId) (fr:Nat × Nat),B.w.heap[b]? = some (Obj.cells cs e fr)->(∀ j,B.K b j)->w.heap[b]? = B.w.heap[b]?
structure j8 (B:fh) (g:Gh) (st:St) (w:World):Prop where
 ok:Ok g st.h w
 fresh:∀ o,st.nx<=o->¬ B.far o->g.inj o=none
 base:tp B g st.h w
 bb:B.bb<=st.nx
def fh.apf (B:fh) (n n':Nat):Prop:=∀ o,n<=o->o<n'->¬ B.far o
def fh.ll (B:fh):Prop:=∀ o,¬ B.far o
theorem fh.ll.Di {B:fh} (h:B.ll) (n n':Nat):B.apf n n':=fun o _ _=>h o
theorem j8.free {B g st aA w} (h:j8 B g st w) (hn:B.apf st.nx aA.nx):nk g st aA:=fun o h1 h2=>h.fresh o h1 (hn o h1 h2)
theorem j8.step {B g st w g' aA w'} (h:j8 B g st w) (hn:B.apf st.nx aA.nx) (s:Stp g st w g' aA w') (aB:Ok g' aA.h w'):j8 B g' aA w':=by
 refine ⟨aB,fun o h1 h2=>s.step.fresh o (h.fresh o (zzu s.le h1) h2) zO,?_,zzu h.bb s.le⟩;have b:=h.base;have t:=s.step;refine ⟨t.ext.b0.trans b.b0,fun o ho=>?_,fun c j hc=>t.ext.K c j (b.K c j hc),fun c j hc=>(t.ext.cell c j (b.K c j hc)).trans (b.cell c j hc),zzu b.size t.size,t.os.trans b.os,t.tape.trans b.tape,t.output.trans b.output,fun c hc hO=>?_,fun o c base ho hi=>?_,fun c j hc=>?_,fun c cs e fr h=>?_,fun c l h=>?_,fun c cs e fr h hK=>(t.ext.whole c cs e fr ((b.whole c cs e fr h hK).trans h) (fun j=>b.K c j (hK j))).trans (b.whole c cs e fr h hK)⟩
 ·have h1:=b.pins o ho;have h2:=h.bb;cases hp:B.pb o with
  |none=>
   rw [hp] at h1;refine t.fresh o h1 (fun hr=>?_);rcases ho with ho|ho
   ·omega
   ·exact hn o hr.1 hr.2 ho
  |some p=>rw [hp] at h1;exact t.ext.inj o p h1
 ·rw [t.frame c (zyc hc b.size) (fun o base ho hi=>?_)]
  ·exact b.frame c hc hO
  ·rcases b.own o c base ho hi with h1|h1
   ·omega
   ·exact hO h1
 ·rcases t.own o c base ho hi with h1|⟨o',base',h1,h2⟩
  ·exact .inl (zzu b.size h1)
  ·exact b.own o' c base' h1 h2
 ·rcases t.n8 c j hc with h1|h1|⟨o',base',h1,h2⟩
  ·exact b.n8 c j h1
  ·exact .inr (.inl (zzu b.size h1))
  ·exact .inr (b.own o' c base' h1 h2)
 ·obtain ⟨cs1,gV,h1,h2⟩:=b.sv c cs e fr h;obtain ⟨jE,pB,h3,h4⟩:=t.ext.sv c cs1 e gV h1;exact ⟨jE,pB,h3,h4.trans h2⟩
 ·obtain ⟨l1,h1⟩:=b.lp c l h;exact t.ext.lp c l1 h1
theorem j8.drawn {B g st w} (h:j8 B g st w):j8 B g st { w with drawn:=w.drawn+1 }:=
 h.step (fun o h1 h2=>by omega) ⟨zza _,Step.same (w:=w) rfl rfl rfl rfl⟩ (Ok.same (w:=w) rfl h.ok)
def Fin (B:fh) (nt:NT) (Q:QL):Exit->Act->World->Prop:=fun ex a w=>
 ∃ e L st g,ex=sm e/\Q e L st/\j8 B g st w/\i6 g w nt L a.tmps/\Marks B.D B.n0 st.h g w a.defers
theorem Fin.mk' {B nt Q e L st g} {a:Act} {w:World} (hq:Q e L st) (hc:j8 B g st w) (hr:i6 g w nt L a.tmps) (hd:Marks B.D B.n0 st.h g w a.defers):Fin B nt Q (sm e) a w:=⟨e,L,st,g,rfl,hq,hc,hr,hd⟩
def Gl (P:Program) (o:Oper) (a:Act) (w:World) (T:Value->World->Prop):Prop:=
 ∀ (ro:Option Nat) (N:Nat) (K:Act->World->Prop) (Q:Exit->Act->World->Prop),(∀ v w',T v w'->K (a.put o.dst v) w')->o.wpIn (ft ro) N P a w K Q
def Low (st:St):Prop:=∀ o x,st.h.get o=some x->o<st.nx
def aox (P:Program) (f:Nat) (args:List AV) (m:M AV):Prop:=
 ∀ (g:Gh) (st:St) (w:World) (vs:List Value) (r:AV) (aA:St),Ok g st.h w->nk g st aA->Low st->bt g w args vs->m st=some (r,aA) ->
  (∃ v w' g',(callFunc f vs.toArray).run P w = .ok (.value v) w'/\Step g st.h w st.nx aA.nx g' aA.h w'/\Ok g' aA.h w'/\Rel g' w' r v) \/
  ((
   callFunc f vs.toArray).run P w = .ok (.enter f vs.toArray) w /\
   Calls P f vs.toArray w (fun e w'=>∃ v g',e = .returned v/\Step g st.h w st.nx aA.nx g' aA.h w'/\Ok g' aA.h w'/\Rel g' w' r v))
def Ca (P:Program) (f:Nat) (args:List AV) (m:M AV):Prop:=
 ∀ (g:Gh) (st:St) (w:World) (vs:List Value) (r:AV) (aA:St),Ok g st.h w->nk g st aA->bt g w args vs->m st=some (r,aA) ->
  (∃ v w' g',(callFunc f vs.toArray).run P w = .ok (.value v) w'/\Step g st.h w st.nx aA.nx g' aA.h w'/\Ok g' aA.h w'/\Rel g' w' r v) \/
  ((
   callFunc f vs.toArray).run P w = .ok (.enter f vs.toArray) w /\
   Calls P f vs.toArray w (fun e w'=>∃ v g',e = .returned v/\Step g st.h w st.nx aA.nx g' aA.h w'/\Ok g' aA.h w'/\Rel g' w' r v))
theorem Ca.toF {P:Program} [KP P] {f:Nat} {args:List AV} {m:M AV} (h:Ca P f args m):aox P f args m:=fun g st w vs r aA h1 h2 _ h3 h4=>h g st w vs r aA h1 h2 h3 h4
def ar (P:Program) (T:eh):Prop:=∀ f b m,T.find f=some (b,m)->∀ args,Ca P f args (m args)
def Po (P:Program) (T:eh):Prop:=∀ f b m,T.find f=some (b,m)->∀ args,aox P f args (m args)
theorem ar.toF {P:Program} [KP P] {T:eh} (h:ar P T):Po P T:=fun f b m hf args=>(h f b m hf args).toF
theorem K3 {P:Program} [KP P] {T:eh} {o:Oper} {ρ:Operand->AV} {st aA:St} {r:AV} (h:gz P T o ρ st=some (r,aA)) :
 (∃ f args ts,o.op = .call { callee:=.value f,args,argTypes:=ts }/\x6 T (ρ f) (args.toList.map ρ) st=some (r,aA))\/mono (aop P o ρ) st=some (r,aA):=by
 obtain ⟨dst,op,type,pos,after,guard⟩:=o;cases op with
 |call c=>
  obtain ⟨callee,args,ts⟩:=c;cases callee with
  |value f=>exact .inl ⟨f,args,ts,rfl,h⟩
  |_=>exact .inr h
 |_=>exact .inr h
theorem af0 {P:Program} [KP P] {o:Oper} {a:Act} {g:Gh} {st aA:St} {w:World} {ρ:Operand->AV} {r:AV} (aB:Ok g st.h w) (hf:nk g st aA) (hr:n7 g w ρ a.eval) (h:mono (aop P o ρ) st=some (r,aA)) :
 Gl P o a w (fun v w'=>∃ g',Step g st.h w st.nx aA.nx g' aA.h w'/\Ok g' aA.h w'/\Rel g' w' r v):=by
 obtain ⟨h1,hle⟩:=Ew h;have hd:∀ c,o.op ≠ .defer c:=by intro c e;unfold aop at h1;rw [e] at h1;cases h1
 obtain ⟨nx,w',g',q1,q2,q3,q4⟩:=aDd (P:=P) aB hf hr h1;intro ro N K Q hK;refine ⟨lh ro P o a w,?_⟩;rw [Oper.semAt_eq _ _ _ hd,q1];rcases q4 with ⟨v,rfl,hv⟩|⟨rfl,rfl⟩
 ·exact hK v w' ⟨g',q2,q3,hv⟩
 ·exact hK undef w' ⟨g',q2,q3,.sc _⟩
theorem at3 {P:Program} [KP P] {o:Oper} {a:Act} {g:Gh} {st aA:St} {w:World} {r:AV} {h:Nat} {args:List AV} {vs:List Value} {m:M AV} (bR:∀ c,o.op ≠ .defer c) (aB:Ok g st.h w) (hf:nk g st aA) (hlo:Low st)
 (hm:aox P h args m) (hrel:bt g w args vs) (hrun:(execOp a.eval o).run P w=(callFunc h vs.toArray).run P w) (hst:m st=some (r,aA)) :
 Gl P o a w (fun v w'=>∃ g',Step g st.h w st.nx aA.nx g' aA.h w'/\Ok g' aA.h w'/\Rel g' w' r v):=by
 intro ro N K Q hK;refine ⟨lh ro P o a w,?_⟩;rw [Oper.semAt_eq _ _ _ bR,hrun];rcases hm g st w vs r aA aB hf hlo hrel hst with ⟨v,w',g',q1,q2,q3,q4⟩|⟨q1,q2⟩
 ·rw [q1];exact hK v w' ⟨g',q2,q3,q4⟩
 ·rw [q1];refine ⟨(fun h=>(by cases h)),(rp (ro:=ro) (n:=N - 1) q2).mono ?_⟩;rintro e w' ⟨v,g',rfl,p2,p3,p4⟩;exact hK v w' ⟨g',p2,p3,p4⟩
theorem aqe {P:Program} [KP P] {o:Oper} {a:Act} {g:Gh} {st aA:St} {w:World} {r:AV} {h:Nat} {args:List AV} {vs:List Value} {m:M AV} (bR:∀ c,o.op ≠ .defer c) (aB:Ok g st.h w) (hf:nk g st aA)
 (hm:Ca P h args m) (hrel:bt g w args vs) (hrun:(execOp a.eval o).run P w=(callFunc h vs.toArray).run P w) (hst:m st=some (r,aA)) :
 Gl P o a w (fun v w'=>∃ g',Step g st.h w st.nx aA.nx g' aA.h w'/\Ok g' aA.h w'/\Rel g' w' r v):=by
 intro ro N K Q hK;refine ⟨lh ro P o a w,?_⟩;rw [Oper.semAt_eq _ _ _ bR,hrun];rcases hm g st w vs r aA aB hf hrel hst with ⟨v,w',g',q1,q2,q3,q4⟩|⟨q1,q2⟩
 ·rw [q1];exact hK v w' ⟨g',q2,q3,q4⟩
 ·rw [q1];refine ⟨(fun h=>(by cases h)),(rp (ro:=ro) (n:=N - 1) q2).mono ?_⟩;rintro e w' ⟨v,g',rfl,p2,p3,p4⟩;exact hK v w' ⟨g',p2,p3,p4⟩
theorem aBk {P:Program} [KP P] {T:eh} (hT:ar P T) {o:Oper} {a:Act} {g:Gh} {st aA:St} {w:World} {ρ:Operand->AV} {r:AV} {f:Operand} {args:Array Operand} {ts:Array TypeId}
 (ho:o.op = .call { callee:=.value f,args,argTypes:=ts }) (aB:Ok g st.h w) (hf:nk g st aA) (hr:n7 g w ρ a.eval) (h:x6 T (ρ f) (args.toList.map ρ) st=some (r,aA)) :
 Gl P o a w (fun v w'=>∃ g',Step g st.h w st.nx aA.nx g' aA.h w'/\Ok g' aA.h w'/\Rel g' w' r v):=by
 have aL:=hr.list args.toList;have go:∀ (k:Nat) (first captured:List AV) (va vb:Array Value),a.eval f = .func (.func k) va vb->bt g w first va.toList->bt g w captured vb.toList->wc T k (first++args.toList.map ρ++captured) st=some (r,aA) ->
  Gl P o a w (fun v w'=>∃ g',Step g st.h w st.nx aA.nx g' aA.h w'/\Ok g' aA.h w'/\Rel g' w' r v):=by
  intro k first captured va vb hfn h1 h2 hc
  unfold wc at hc;cases dJ:T.find k with
  |none=>rw [dJ] at hc;cases hc
  |some p=>
   obtain ⟨b,m⟩:=p;rw [dJ] at hc;refine aqe (Hs ho) (vs:=va.toList++args.toList.map a.eval++vb.toList) aB hf (hT k b m dJ _) ((h1.append aL).append h2) ?_ (Ew hc).1;rw [G8 ho hfn]
   congr 2
   apply Array.ext';simp
 have hv:=hr f;unfold x6 at h;cases hx : ρ f with
 |fn fx first captured=>
  rw [hx] at h hv;simp only at h;cases fx with
  |func k=>
   have:∃ va vb,a.eval f = .func (.func k) va vb/\bt g w first va.toList/\bt g w captured vb.toList:=by
    generalize a.eval f=vf at hv;cases hv with
    |fn _ _ _ va vb hs hh hs' bH=>exact ⟨va,vb,rfl,⟨by simpa using hs,fun i x y hx hy=>hh i x y hx (by simpa using hy)⟩,⟨by simpa using hs',fun i x y hx hy=>bH i x y hx (by simpa using hy)⟩⟩
   obtain ⟨va,vb,e,h1,h2⟩:=this;exact go k first captured va vb e h1 h2 h
  |_=>cases h
 |sc x=>
  rw [hx] at h hv;simp only at h;cases x with
  |func fx first captured=>
   cases fx with
   |func k=>
    have e:=hv.exact rfl;exact go k _ _ first captured e (bt.G6 g w _) (bt.G6 g w _) h
   |_=>cases h
  |_=>cases h
 |_=>rw [hx] at h;cases h
theorem Kw {P:Program} [KP P] {T:eh} (hT:ar P T) {o:Oper} {a:Act} {g:Gh} {st aA:St} {w:World} {ρ:Operand->AV} {r:AV} (aB:Ok g st.h w) (hf:nk g st aA) (hr:n7 g w ρ a.eval) (h:gz P T o ρ st=some (r,aA)) :
 Gl P o a w (fun v w'=>∃ g',Step g st.h w st.nx aA.nx g' aA.h w'/\Ok g' aA.h w'/\Rel g' w' r v):=by
 rcases K3 h with ⟨f,args,ts,ho,h1⟩|h1
 ·exact aBk hT ho aB hf hr h1
 ·exact af0 aB hf hr h1
theorem ayi {P:Program} [KP P] {T:eh} (hT:Po P T) {o:Oper} {a:Act} {g:Gh} {st aA:St} {w:World} {ρ:Operand->AV} {r:AV} {f:Operand} {args:Array Operand} {ts:Array TypeId}
 (ho:o.op = .call { callee:=.value f,args,argTypes:=ts }) (aB:Ok g st.h w) (hf:nk g st aA) (hlo:Low st) (hr:n7 g w ρ a.eval) (h:x6 T (ρ f) (args.toList.map ρ) st=some (r,aA)) :
 Gl P o a w (fun v w'=>∃ g',Step g st.h w st.nx aA.nx g' aA.h w'/\Ok g' aA.h w'/\Rel g' w' r v):=by
 have aL:=hr.list args.toList;have go:∀ (k:Nat) (first captured:List AV) (va vb:Array Value),a.eval f = .func (.func k) va vb->bt g w first va.toList->bt g w captured vb.toList->wc T k (first++args.toList.map ρ++captured) st=some (r,aA) ->
  Gl P o a w (fun v w'=>∃ g',Step g st.h w st.nx aA.nx g' aA.h w'/\Ok g' aA.h w'/\Rel g' w' r v):=by
  intro k first captured va vb hfn h1 h2 hc
  unfold wc at hc;cases dJ:T.find k with
  |none=>rw [dJ] at hc;cases hc
  |some p=>
   obtain ⟨b,m⟩:=p;rw [dJ] at hc;refine at3 (Hs ho) (vs:=va.toList++args.toList.map a.eval++vb.toList) aB hf hlo (hT k b m dJ _) ((h1.append aL).append h2) ?_ (Ew hc).1;rw [G8 ho hfn]
   congr 2
   apply Array.ext';simp
 have hv:=hr f;unfold x6 at h;cases hx : ρ f with
 |fn fx first captured=>
  rw [hx] at h hv;simp only at h;cases fx with
  |func k=>
   have:∃ va vb,a.eval f = .func (.func k) va vb/\bt g w first va.toList/\bt g w captured vb.toList:=by
    generalize a.eval f=vf at hv;cases hv with
    |fn _ _ _ va vb hs hh hs' bH=>exact ⟨va,vb,rfl,⟨by simpa using hs,fun i x y hx hy=>hh i x y hx (by simpa using hy)⟩,⟨by simpa using hs',fun i x y hx hy=>bH i x y hx (by simpa using hy)⟩⟩
   obtain ⟨va,vb,e,h1,h2⟩:=this;exact go k first captured va vb e h1 h2 h
  |_=>cases h
 |sc x=>
  rw [hx] at h hv;simp only at h;cases x with
  |func fx first captured=>
   cases fx with
   |func k=>
    have e:=hv.exact rfl;exact go k _ _ first captured e (bt.G6 g w _) (bt.G6 g w _) h
   |_=>cases h
  |_=>cases h
 |_=>rw [hx] at h;cases h
theorem avn {P:Program} [KP P] {T:eh} (hT:Po P T) {o:Oper} {a:Act} {g:Gh} {st aA:St} {w:World} {ρ:Operand->AV} {r:AV} (aB:Ok g st.h w) (hf:nk g st aA) (hlo:Low st) (hr:n7 g w ρ a.eval) (h:gz P T o ρ st=some (r,aA)) :
 Gl P o a w (fun v w'=>∃ g',Step g st.h w st.nx aA.nx g' aA.h w'/\Ok g' aA.h w'/\Rel g' w' r v):=by
 rcases K3 h with ⟨f,args,ts,ho,h1⟩|h1
 ·exact ayi hT ho aB hf hlo hr h1
 ·exact af0 aB hf hr h1
theorem Tp {P:Program} [KP P] {o:Oper} {a:Act} {g:Gh} {st:St} {w:World} {L:SL} {K:SL->St->Prop} (aB:Ok g st.h w) (hfr:∀ o,st.nx<=o->g.inj o=none) (hr:n7 g w (dw L) a.eval) (h:P7 P o L st K) :
 Gl P o a w (fun v w'=>∃ g' r aA,K (oq o.dst r L) aA/\st.nx<=aA.nx/\Step g st.h w st.nx aA.nx g' aA.h w'/\Ok g' aA.h w'/\Rel g' w' r v):=by
 unfold P7 at h
 split at h
 ·rename_i f args ts ho;have aL:=hr.list args.toList;have go:∀ (k:Nat) (first captured:List AV) (va vb:Array Value),a.eval f = .func (.func k) va vb->bt g w first va.toList->bt g w captured vb.toList->k8 P k (first++args.toList.map (dw L)++captured) st (fu K o.dst L) ->
   Gl P o a w (fun v w'=>∃ g' r aA,K (oq o.dst r L) aA/\st.nx<=aA.nx/\Step g st.h w st.nx aA.nx g' aA.h w'/\Ok g' aA.h w'/\Rel g' w' r v):=by
   intro k first captured va vb hfn h1 h2 hc
   have hrun:(execOp a.eval o).run P w=(callFunc k (va.toList++args.toList.map a.eval++vb.toList).toArray).run P w:=by
    rw [G8 ho hfn]
    congr 2
    apply Array.ext';simp
   intro ro N K' Q hK;refine ⟨lh ro P o a w,?_⟩;rw [Oper.semAt_eq _ _ _ (Hs ho),hrun];rcases hc g w _ aB hfr ((h1.append aL).append h2) with ⟨v,w',g',r,aA,q1,q2,q3,q4,q5,q6⟩|⟨q1,q2⟩
   ·rw [q1];exact hK v w' ⟨g',r,aA,q2,q3,q4,q5,q6⟩
   ·rw [q1];refine ⟨(fun h=>(by cases h)),(rp (ro:=ro) (n:=N - 1) q2).mono ?_⟩;rintro e w' ⟨v,g',r,aA,rfl,p2,p3,p4,p5,p6⟩;exact hK v w' ⟨g',r,aA,p2,p3,p4,p5,p6⟩
  have hv:=hr f;unfold apk at h;cases hcv:Y1 (dw L f) (args.toList.map (dw L)) with
  |none=>rw [hcv] at h;exact h.elim
  |some p=>
  obtain ⟨k,uL⟩:=p;rw [hcv] at h;simp only at h;unfold Y1 at hcv;cases hx:dw L f with
  |fn fx first captured=>
   rw [hx] at hcv hv;simp only at hcv;cases fx with
   |func k=>
    cases hcv;have:∃ va vb,a.eval f = .func (.func k) va vb/\bt g w first va.toList/\bt g w captured vb.toList:=by
     generalize a.eval f=vf at hv;cases hv with
     |fn _ _ _ va vb hs hh hs' bH=>exact ⟨va,vb,rfl,⟨by simpa using hs,fun i x y hx hy=>hh i x y hx (by simpa using hy)⟩,⟨by simpa using hs',fun i x y hx hy=>bH i x y hx (by simpa using hy)⟩⟩
    obtain ⟨va,vb,e,h1,h2⟩:=this;exact go k first captured va vb e h1 h2 h
   |_=>cases hcv
  |sc x=>
   rw [hx] at hcv hv;simp only at hcv;cases x with
   |func fx first captured=>
    cases fx with
    |func k=>
     cases hcv;have e:=hv.exact rfl;exact go k _ _ first captured e (bt.G6 g w _) (bt.G6 g w _) h
    |_=>cases hcv
   |_=>cases hcv
  |_=>rw [hx] at hcv;cases hcv
 ·exact h.elim
theorem ay8 {T:eh} {f:AV} {args:List AV} {st aA:St} {r:AV} (h:x6 T f args st=some (r,aA)):st.nx<=aA.nx:=by
 have one:∀ k args,wc T k args st=some (r,aA)->st.nx<=aA.nx:=by
  intro k args h;unfold wc at h;cases dJ:T.find k with
  |none=>rw [dJ] at h;cases h
  |some p=>rw [dJ] at h;exact (Ew h).2
 have two:∀ k args,ag7 T k args st=some (r,aA)->st.nx<=aA.nx:=by
  intro k args h;cases k with
  |func k=>exact one k args h
  |_=>cases h
 unfold x6 at h;cases f with
 |fn k a b=>exact two k _ h
 |sc x=>
  cases x with
  |func k a b=>exact two k _ h
  |_=>cases h
 |_=>cases h
theorem Dr {P:Program} [KP P] {T:eh} {o:Oper} {ρ:Operand->AV} {st aA:St} {r:AV} (h:gz P T o ρ st=some (r,aA)):st.nx<=aA.nx:=by
 rcases K3 h with ⟨f,args,ts,ho,h1⟩|h1
 ·exact ay8 h1
 ·exact (Ew h1).2
theorem Wp {g w a v b} (h:Rel g w a v) (hb:a.bool=some b):v = .bool b:=by
 unfold AV.bool AV.exact pf at hb;cases a with
 |sc x=>
  have:=h.exact rfl;subst this;simp only [Option.bind_some] at hb
  split at hb
  ·simp at hb;subst hb;rfl
  ·cases hb
 |_=>cases hb
theorem Ri {a:AV} {x y:Prop} (h:re a x y):∃ v,a.bool=some v/\(v=true->x)/\(v=false->y):=by
 unfold re at h
 split at h
 ·rename_i v hv;exact ⟨v,hv,h⟩
 ·exact h.elim
theorem Wn {o:Option Bool} {x y:Prop} (h:Bk o x y):∃ b,o=some b/\(b=true->x)/\(b=false->y):=by
 unfold Bk at h
 split at h
 ·rename_i v;exact ⟨v,rfl,h⟩
 ·exact h.elim
theorem Xg {g w a v c b} (h:Rel g w a v) (hb:D6 a c=some b):H9 c v=b:=by
 unfold D6 AV.exact at hb;cases a with
 |sc x=>
  have:=h.exact rfl;subst this;simpa using hb
 |_=>cases hb
theorem S9 {ops:Array Oper} {tmps:Array Value} {j d:Nat} (c:Bool) (hd:((ops[j]?).bind (·.dst))=some d) (hlt:d<tmps.size):(yielded ops tmps j == some c)=H9 c (tmps.getD d undef):=by unfold yielded;rw [hd,Option.bind_some,zze,zz3 hlt,Option.getD_some];generalize tmps[d]=v;unfold H9;cases v<;>first|rfl|(cases c<;>rfl)
theorem Fq {ops:Array Oper} {L:SL} {o:Oper} {x y:Prop} {g w nt} {a:Act} (hr:i6 g w nt L a.tmps) (hs:∀ j b,o.guard=some (j,b)->∃ d,((ops[j]?).bind (·.dst))=some d/\d<nt.n) (h:guarded ops L o.guard x y) :
 (Region.wanted o (yielded ops a.tmps)=true/\x)\/(Region.wanted o (yielded ops a.tmps)=false/\y):=by
 unfold guarded at h;unfold Region.wanted;cases hg:o.guard with
 |none=>rw [hg] at h;exact .inl ⟨rfl,h⟩
 |some q=>
  obtain ⟨j,b⟩:=q;obtain ⟨d,hd,hlt⟩:=hs j b hg;rw [hg] at h;have rC:wi ops j=d:=by unfold wi;rw [hd];rfl
  simp only [rC] at h;dsimp only;obtain ⟨c,hc,h1,h2⟩:=Wn h;rw [S9 b hd (by rw [hr.1.size];exact hlt),Xg (hr.2 d) hc];cases c with
  |true=>exact .inl ⟨rfl,h1 rfl⟩
  |false=>exact .inr ⟨rfl,h2 rfl⟩
theorem pg {nt:NT} {ops:Array Oper} (h:xc nt ops=true) {o:Oper} (ho:o ∈ ops):∀ d,o.dst=some d->nt.has d=true:=by intro d hd;unfold xc at h;rw [Array.all_eq_true_iff_forall_mem] at h;have:=h o ho;rw [hd] at this;simpa using this
theorem Ge {nt:NT} {ops:Array Oper} (h:rj nt ops=true) {o:Oper} (ho:o ∈ ops):∀ j b,o.guard=some (j,b)->∃ d,((ops[j]?).bind (·.dst))=some d/\d<nt.n:=by
 intro j b hg;unfold rj at h;rw [Array.all_eq_true_iff_forall_mem] at h;have:=h o ho;rw [hg] at this;simp only at this
 split at this
 ·rename_i d hd;exact ⟨d,hd,by simpa using this⟩
 ·cases this
theorem anq {P:Program} [KP P] {T:eh} (hT:ar P T) {ops:Array Oper} {ro:Option Nat} {N:Nat} {B:fh} {nt:NT} {Q:Exit->Act->World->Prop} {K:SL->St->Prop} (aH:B.ll) (hg:rj nt ops=true) (hd:xc nt ops=true)
 (hK:∀ L st g w a,K L st->j8 B g st w->i6 g w nt L a.tmps->Marks B.D B.n0 st.h g w a.defers->Q .normal a w) :
 ∀ (l:List Oper) (is:List Nat),(∀ o ∈ l,o ∈ ops)->is.map (fun i=>ops[i]?)=l.map some->∀ L st g w a,opsL P T ops l K L st->j8 B g st w->i6 g w nt L a.tmps->Marks B.D B.n0 st.h g w a.defers->wpOpsIn (ft ro) N P ops Q is a w:=by
 intro l
 induction l with
 |nil=>
  intro is _ aQ L st g w a h hc hr cA;cases is with
  |nil=>exact hK L st g w a h hc hr cA
  |cons i is=>cases aQ
 |cons o l ih=>
  intro is hmem aQ L st g w a h hc hr cA;cases is with
  |nil=>cases aQ
  |cons i is=>
   simp only [List.map_cons,List.cons.injEq] at aQ;obtain ⟨hi,aQ⟩:=aQ;have ho:=hmem o (by simp);simp only [wpOpsIn,hi];rcases Fq hr (Ge hg ho) h with ⟨hw,h1⟩|⟨hw,h1⟩
   ·rw [hw,if_pos rfl];unfold Tn Gm at h1;cases hop:gz P T o (dw L) st with
    |none=>
     rw [hop] at h1;refine Tp hc.ok (fun o ho=>hc.fresh o ho (aH o)) hr.eval h1 ro N _ _ ?_;rintro u w' ⟨g',v,aA,q0,q1,q2,q3,q4⟩;exact ih is (fun o ho=>hmem o (by simp [ho])) aQ _ aA g' w' _ q0 (hc.step (aH.Di _ _) ⟨q1,q2⟩ q3) ((hr.ext q2.ext).put q4 (pg hd ho)) (by rw [put_defers];exact cA.step q2)
    |some p=>
     obtain ⟨v,aA⟩:=p;rw [hop] at h1;refine Kw hT hc.ok (hc.free (aH.Di _ _)) hr.eval hop ro N _ _ ?_;rintro u w' ⟨g',q1,q2,q3⟩;exact ih is (fun o ho=>hmem o (by simp [ho])) aQ _ aA g' w' _ h1 (hc.step (aH.Di _ _) ⟨Dr hop,q1⟩ q2) ((hr.ext q1.ext).put q3 (pg hd ho)) (by rw [put_defers];exact cA.step q1)
   ·rw [hw,if_neg (by simp)];refine ⟨lh ro P o a w,?_⟩;exact ih is (fun o ho=>hmem o (by simp [ho])) aQ _ st g w _ h1 hc (hr.put (.sc _) (pg hd ho)) (by rw [put_defers];exact cA)
theorem H2 (ops:Array Oper):(List.range ops.size).map (fun i=>ops[i]?)=ops.toList.map some:=by
 apply List.ext_getElem?;intro i;simp only [zzj];by_cases h:i<ops.size
 ·simp [h]
 ·simp [h]
theorem gv (τ:Nat->Option Nat):∀ l:List AV,AV.da.go τ l=l.map (AV.da τ)
 | []=>rfl
 |a::r=>by simp [AV.da.go,gv τ r]
theorem M5 (τ:Nat->Option Nat) (a:AV):(a.da τ).cells=a.cells.map (AV.da τ):=by cases a<;>simp only [AV.da]<;>(try split)<;>simp_all [AV.cells,AV.da,gv]
def Gh.da (g:Gh) (N:List Nat):Gh:={ g with inj:=fun i=>(N[i]?).bind g.inj }
theorem Rel.da {g w} {τ:Nat->Option Nat} {N:List Nat} (hτ:∀ o p,τ o=some p->N[p]? = some o) {a:AV} {v:Value} (h:Rel g w a v):Rel (g.da N) w (a.da τ) v:=by
 have hi:∀ o p q,τ o=some p->g.inj o=some q->(g.da N).inj p=some q:=by intro o p q h1 h2;simp [Gh.da,hτ o p h1,h2]
 induction h with
 |sc x=>exact .sc x
 |agg l vs hs _ ih=>simp only [AV.da,gv];exact .agg _ vs (by simp [hs]) (fun i a v ha hv=>by rw [zzj,zzk] at ha;obtain ⟨b,hb,rfl⟩:=ha;exact ih i b v hb hv)
 |gn l vs hs _ ih=>simp only [AV.da,gv];exact .gn _ vs (by simp [hs]) (fun i a v ha hv=>by rw [zzj,zzk] at ha;obtain ⟨b,hb,rfl⟩:=ha;exact ih i b v hb hv)
 |vl loc sz es b off cap c hsz hl aK h _ hw ih=>
  have mX:(es.map (AV.da τ)).flatMap AV.cells=(es.flatMap AV.cells).map (AV.da τ):=by rw [List.flatMap_map,List.map_flatMap];congr 1;funext x;exact M5 τ x
  simp only [AV.da,gv];have:=Rel.vl (g:=g.da N) (w:=w) loc sz (es.map (AV.da τ)) b off cap c (fun e he=>by
   obtain ⟨x,hx,rfl⟩:=zyj.1 he;rw [M5];simp [hsz x hx]) hl (by simpa using aK)
   (fun j a hj=>by rw [mX,zzj,zzk] at hj;obtain ⟨x,hx,rfl⟩:=hj;exact h j x hx)
   (fun j a hj=>by rw [mX,zzj,zzk] at hj;obtain ⟨x,hx,rfl⟩:=hj;exact ih j x hx) (fun e=>by have:=hw e;rw [zzo];exact ⟨this.K,this.sv,this.none,this.cm⟩)
  simpa using this
 |jy loc sz=>exact .jy loc sz
 |tv loc sz a=>exact .tv loc sz a
 |sl o off len sz b base cap h1 hc hm hr=>
  simp only [AV.da];cases hp : τ o with
  |none=>exact .bad _
  |some p=>exact .sl p off len sz b base cap (hi o p _ hp h1) hc hm hr
 |r9 o off sz a=>
  simp only [AV.da];cases hp : τ o with
  |none=>exact .bad _
  |some p=>exact .r9 p off sz a
 |tg o off sz=>
  simp only [AV.da];cases hp : τ o with
  |none=>exact .bad _
  |some p=>exact .tg p off sz
 |ez a=>exact .ez a
 |ptr o off b base h1=>
  simp only [AV.da];cases hp : τ o with
  |none=>exact .bad _
  |some p=>exact .ptr p off b base (hi o p _ hp h1)
 |fe l b off c h _ ih=>
  simp only [AV.da,gv];exact .fe _ b off c (fun j a hj=>by rw [zzj,zzk] at hj;obtain ⟨x,hx,rfl⟩:=hj;exact h j x hx)
   (fun j a hj=>by rw [zzj,zzk] at hj;obtain ⟨x,hx,rfl⟩:=hj;exact ih j x hx)
 |fn f first captured va vb hs _ hs' _ ih ih'=>
  simp only [AV.da,gv];exact .fn f _ _ va vb (by simp [hs]) (fun i a v ha hv=>by rw [zzj,zzk] at ha;obtain ⟨b,hb,rfl⟩:=ha;exact ih i b v hb hv)
   (by simp [hs']) (fun i a v ha hv=>by rw [zzj,zzk] at ha;obtain ⟨b,hb,rfl⟩:=ha;exact ih' i b v hb hv)
 |mp o b base h1=>
  simp only [AV.da];cases hp : τ o with
  |none=>exact .bad _
  |some p=>exact .mp p b base (hi o p _ hp h1)
 |tf t a v _ ih=>exact .tf t _ v ih
 |yl o b base h1=>exact .bad _
 |bad v=>exact .bad v
theorem l9.da {g w b base} {τ:Nat->Option Nat} {N:List Nat} (hτ:∀ o p,τ o=some p->N[p]? = some o) {x y:bo} (h:l9 g w b base x) (hy:x.da τ=some y):l9 (g.da N) w b base y:=by
 cases x with
 |row cells k st et=>
  simp only [bo.da,Option.some.injEq] at hy;subst hy;obtain ⟨cs,fr,h1,h2,h3,h4,h5,h6,h7⟩:=h;rw [gv];exact ⟨cs,fr,h1,by simpa using h2,fun j a ha=>by rw [zzj,zzk] at ha;obtain ⟨x,hx,rfl⟩:=ha;obtain ⟨c,hc,hr⟩:=h3 j x hx;exact ⟨c,hc,hr.da hτ⟩,h4,h5,h6,by simpa using h7⟩
 |map es=>
  simp only [bo.da,Option.some.injEq] at hy;subst hy;obtain ⟨h0,ms,clock,h1,h2⟩:=h;refine ⟨h0,ms,clock,h1,h2.same (by simp) (fun hl=>?_) fun i e v he=>?_⟩
  ·have key:∀ (l:List (Value × AV)) (f:Value × AV->Value × AV),(∀ e,(f e).1=e.1)->Et (l.map f)=Et l:=by
    intro l f hf
    induction l with
    |nil=>rfl
    |cons a l ih=>simp only [List.map_cons,Et,ih,List.all_map];congr 2;funext x;simp [hf]
   unfold loose at hl ⊢;rw [key es (fun e=>(e.1,e.2.da τ)) (fun _=>rfl)];simpa using hl
  ·rw [zzj,zzk] at he;obtain ⟨x,hx,rfl⟩:=he;exact ⟨x,hx,rfl,fun hr=>hr.da hτ⟩
 |loop=>cases hy
theorem Lo (a:Nat) (l:List Nat) (o i:Nat):idx (a::l) o i=if a=o then some i else idx l o (i+1):=by
 show (bif Nat.beq a o then some i else idx l o (i+1))=_;by_cases h:a=o
 ·subst h;simp
 ·rw [if_neg h,qg h];rfl
theorem amu:∀ (l:List Nat) (o i p:Nat),idx l o i=some p->i<=p/\l[p - i]? = some o
 | [],o,i,p,h=>by cases h
 |a::l,o,i,p,h=>by
  rw [Lo] at h;by_cases e:a=o
  ·rw [if_pos e] at h;simp at h;subst h;subst e;simp
  ·rw [if_neg e] at h;obtain ⟨h1,h2⟩:=amu l o (i+1) p h;refine ⟨zO,?_⟩;rw [show p - i=(p - (i+1))+1 from by omega];simpa using h2
theorem F0 (l:List Nat) (o p:Nat) (h:idx l o 0=some p):l[p]? = some o:=by simpa using (amu l o 0 p h).2
theorem Ac (h:Tr bo):∀ (n:Nat) (todo acc:List Nat),acc.Nodup->(reach h n todo acc).Nodup/\(∃ r,reach h n todo acc=acc++r)/\(reach h n todo acc).length<=acc.length+n:=by
 intro n
 induction n with
 |zero=>intro todo acc hn;exact ⟨by simpa [reach] using hn,⟨[],by simp [reach]⟩,by simp [reach]⟩
 |succ n ih=>
  intro todo acc hn;cases todo with
  |nil=>exact ⟨by simpa [reach] using hn,⟨[],by simp [reach]⟩,by simp [reach]⟩
  |cons o r=>
   simp only [reach];cases hc:acc.contains o with
   |true=>
    obtain ⟨h1,h2,h3⟩:=ih r acc hn;exact ⟨h1,h2,by simp only [cond_true];omega⟩
   |false=>
    simp only [cond_false];have hno:o ∉ acc:=by simpa using hc
    cases hg:h.get o with
    |none=>
     obtain ⟨h1,h2,h3⟩:=ih r acc hn;exact ⟨h1,h2,by dsimp only;omega⟩
    |some x=>
     have hn':(acc++[o]).Nodup:=by rw [List.nodup_append];exact ⟨hn,by simp,fun a ha b hb=>by simp at hb;subst hb;intro e;subst e;exact hno ha⟩
     obtain ⟨h1,⟨q,h2⟩,h3⟩:=ih (x.names++r) (acc++[o]) hn';refine ⟨h1,⟨o::q,by simp [h2]⟩,?_⟩;simp only [za,zyg] at h3;dsimp only;omega
theorem Fs:∀ (n lo i:Nat),i<n->(dz lo n)[i]? = some (lo+i)
 |0,lo,i,h=>by omega
 |n+1,lo,0,h=>by simp [dz]
 |n+1,lo,i+1,h=>by rw [dz,List.getElem?_cons_succ,Fs n (lo+1) i zO,zyk,Nat.add_comm 1 i]
theorem mh:∀ (n lo o:Nat),o ∈ dz lo n↔lo<=o/\o<lo+n
 |0,lo,o=>by simp [dz]
 |n+1,lo,o=>by rw [dz,zya,mh n (lo+1) o];omega
theorem js:∀ (n lo:Nat),(dz lo n).length=n
 |0,_=>rfl
 |n+1,lo=>by simp [dz,js n]
theorem ri:∀ (n lo:Nat),(dz lo n).Nodup
 |0,_=>by simp [dz]
 |n+1,lo=>by rw [dz,List.nodup_cons];exact ⟨by rw [mh];omega,ri n (lo+1)⟩
theorem uk:∀ (os:List (Option bo)) (i j:Nat),i+os.length<=c9+1->(l6 i os).get j=if i<=j then (os[j - i]?).join else none
 | [],i,j,_=>by simp [l6,Tr.get_nil]
 |x::r,i,j,h=>by
  simp only [List.length_cons] at h;rw [l6,i4 _ _ _ _ zO,uk r (i+1) j zO];by_cases e:j=i
  ·subst e;simp
  ·rw [if_neg e];by_cases h1:i+1<=j
   ·rw [if_pos h1,if_pos zO,show j - i=(j - (i+1))+1 from by omega,List.getElem?_cons_succ]
   ·rw [if_neg h1,if_neg zO]
theorem uz (h:Tr bo) (τ:Nat->Option Nat):∀ (l:List Nat) (i:Nat),(jc h τ l)[i]? = (l[i]?).map (fun o=>(h.get o).bind (bo.da τ))
 | [],i=>by simp [jc]
 |o::r,0=>by simp [jc]
 |o::r,i+1=>by simp [jc,uz h τ r i]
theorem iq (h:Tr bo) (τ:Nat->Option Nat):∀ l:List Nat,(jc h τ l).length=l.length
 | []=>rfl
 |_::r=>by simp [jc,iq h τ r]
theorem Ym:∀ (keep:List Nat) (f:Nat->AV) (t:Nat),lk (iz keep (keep.map f)) t=if t ∈ keep then f t else .bad
 | [],f,t=>by simp [iz,lk]
 |k::ks,f,t=>by
  simp only [List.map_cons,iz,vu,Ym ks f t,zya];by_cases e:k=t
  ·subst e;simp
  ·rw [if_neg e];by_cases h:t ∈ ks
   ·simp [h]
   ·simp [h,Ne.symm e]
theorem Ha {B:fh} {nt:NT} {g:Gh} {st:St} {w:World} {L:SL} {tmps:Array Value} (aH:B.ll) (hp:B.bb<=1000) (keep:List Nat) (hc:j8 B g st w) (hr:i6 g w nt L tmps) :
 j8 B (g.da (ik B.bb keep L st)) (bh (fl B.bb keep L st)) w/\i6 (g.da (ik B.bb keep L st)) w nt (iz keep (ij B.bb keep L st)) tmps:=by
 have hN:=Ac st.h fj (AV.names.go (keep.map (lk L))++oo st.h (dz 0 B.bb)) (dz 0 B.bb) (ri _ _);change (ik B.bb keep L st).Nodup/\(∃ r,ik B.bb keep L st=dz 0 B.bb++r)/\(ik B.bb keep L st).length<=_ at hN;have hτ:∀ o p,(fun o=>idx (ik B.bb keep L st) o 0) o=some p->(ik B.bb keep L st)[p]? = some o:=fun o p h=>F0 _ o p h
 unfold fl ij;generalize ik B.bb keep L st=N at hN hτ;obtain ⟨bR,⟨rest,hpre⟩,hlen⟩:=hN;rw [js] at hlen;have aD:N.length<=c9:=by simp only [fj,c9] at *;omega
 have ef:∀ i x,(bh (jc st.h (fun o=>idx N o 0) N)).h.get i=some x->∃ o y,N[i]? = some o/\st.h.get o=some y/\y.da (fun o=>idx N o 0)=some x:=by
  intro i x hx;simp only [bh] at hx;rw [uk _ _ _ (by rw [iq];omega),if_pos (zzb _),Nat.sub_zero,uz] at hx;cases hi:N[i]? with
  |none=>rw [hi] at hx;cases hx
  |some o=>
   rw [hi] at hx;simp only [Option.map_some,Option.join_some] at hx;cases hy:st.h.get o with
   |none=>rw [hy] at hx;cases hx
   |some y=>rw [hy] at hx;exact ⟨o,y,rfl,hy,hx⟩
 have aN:∀ i o,N[i]? = some o->(g.da N).inj i=g.inj o:=fun i o h=>by simp [Gh.da,h]
 refine ⟨⟨⟨hc.ok.size,fun i x hx=>?_,fun i j x y b base base' dI hx hy hb hb'=>?_,hc.ok.K⟩,fun i hi=>?_,?_,?_⟩,hr.1,fun t=>?_⟩
 ·obtain ⟨o,y,h1,h2,h3⟩:=ef i x hx;refine (hc.ok.mn o y h2).imp (fun q=>⟨by rw [aN i o h1];exact q.1,by obtain ⟨s0,e0,rfl⟩:=q.2;simp only [bo.da,AV.da.go,Option.some.injEq] at h3;exact ⟨s0,e0,h3.symm⟩⟩) ?_;rintro ⟨b,base,q1,q2,q3⟩;exact ⟨b,base,by rw [aN i o h1];exact q1,q2,q3.da hτ h3⟩
 ·obtain ⟨o,y1,h1,h2,_⟩:=ef i x hx;obtain ⟨o',y2,h1',h2',_⟩:=ef j y hy;rw [aN i o h1] at hb;rw [aN j o' h1'] at hb';have hne:o≠o':=by
   intro e;subst e;obtain ⟨hi,ei⟩:=zg.1 h1;obtain ⟨hj,ej⟩:=zg.1 h1';exact dI ((List.getElem_inj bR).1 (ei.trans ej.symm))
  exact hc.ok.sep o o' _ _ b base base' hne h2 h2' hb hb'
 ·simp only [bh,iq] at hi;intro _;simp [Gh.da,zzy hi]
 ·have b:=hc.base;refine ⟨b.b0,fun o ho=>?_,b.K,b.cell,b.size,b.os,b.tape,b.output,b.frame,fun i c base hi hj=>?_,b.n8,b.sv,b.lp,b.whole⟩
  ·have ho:=ho.resolve_right (aH o);rw [aN o o (by rw [hpre,zzi (by rw [js];exact ho),Fs _ _ _ ho,Nat.zero_add])];exact b.pins o (.inl ho)
  ·obtain ⟨x,hx⟩:=zzv.1 hi;obtain ⟨o,y,h1,h2,_⟩:=ef i x hx;rw [aN i o h1] at hj;exact b.own o c base (by rw [h2];rfl) hj
 ·simp only [bh,iq];rw [hpre,za,js];omega
 ·rw [gv,List.map_map,Ym];by_cases h:t ∈ keep
  ·rw [if_pos h];exact (hr.2 t).da hτ
  ·rw [if_neg h];exact .bad _
def rh (bb:Nat) (vs:List AV) (os:List (Option bo)):List Nat:=reach (bh os).h fj (AV.names.go vs++oo (bh os).h (dz 0 bb)) (dz 0 bb)
theorem jh.canon {bb:Nat} {vs:List AV} {os:List (Option bo)} (hp:bb<=1000) :
 jh bb vs os (AV.da.go (fun o=>idx (rh bb vs os) o 0) vs) (jc (bh os).h (fun o=>idx (rh bb vs os) o 0) (rh bb vs os)):=by
 have hN:=Ac (bh os).h fj (AV.names.go vs++oo (bh os).h (dz 0 bb)) (dz 0 bb) (ri _ _);change (rh bb vs os).Nodup/\(∃ r,rh bb vs os=dz 0 bb++r)/\(rh bb vs os).length<=_ at hN;have hτ:∀ o p,(fun o=>idx (rh bb vs os) o 0) o=some p->(rh bb vs os)[p]? = some o:=fun o p h=>F0 _ o p h
 generalize rh bb vs os=N at hN hτ;obtain ⟨bR,⟨rest,hpre⟩,hlen⟩:=hN;rw [js] at hlen;have aD:N.length<=c9:=by simp only [fj,c9] at *;omega
 refine ⟨by rw [gv,zzo],fun _=>by rw [iq,hpre,za,js];omega,fun g w us aB hf hr=>⟨g.da N,?_⟩⟩;have ef:∀ i x,(bh (jc (bh os).h (fun o=>idx N o 0) N)).h.get i=some x->∃ o y,N[i]? = some o/\(bh os).h.get o=some y/\y.da (fun o=>idx N o 0)=some x:=by
  intro i x hx;rw [show (bh (jc (bh os).h (fun o=>idx N o 0) N)).h=l6 0 (jc (bh os).h (fun o=>idx N o 0) N) from rfl,uk _ _ _ (by rw [iq];omega),if_pos (zzb _),Nat.sub_zero,uz] at hx;cases hi:N[i]? with
  |none=>rw [hi] at hx;cases hx
  |some o=>
   rw [hi] at hx;simp only [Option.map_some,Option.join_some] at hx;cases hy:(bh os).h.get o with
   |none=>rw [hy] at hx;cases hx
   |some y=>rw [hy] at hx;exact ⟨o,y,rfl,hy,hx⟩
 have aN:∀ i o,N[i]? = some o->(g.da N).inj i=g.inj o:=fun i o h=>by simp [Gh.da,h]
 refine ⟨⟨aB.size,fun i x hx=>?_,fun i j x y b base base' dI hx hy hb hb'=>?_,aB.K⟩,?_,rfl,fun o ho=>?_,fun o ho=>?_,fun _ _ h=>h,fun i b base hi hj=>?_,fun _ _ h=>.inl h⟩
 ·obtain ⟨o,y,h1,h2,h3⟩:=ef i x hx;refine (aB.mn o y h2).imp (fun q=>⟨by rw [aN i o h1];exact q.1,by obtain ⟨s0,e0,rfl⟩:=q.2;simp only [bo.da,AV.da.go,Option.some.injEq] at h3;exact ⟨s0,e0,h3.symm⟩⟩) ?_;rintro ⟨b,base,q1,q2,q3⟩;exact ⟨b,base,by rw [aN i o h1];exact q1,q2,q3.da hτ h3⟩
 ·obtain ⟨o,y1,h1,h2,_⟩:=ef i x hx;obtain ⟨o',y2,h1',h2',_⟩:=ef j y hy;rw [aN i o h1] at hb;rw [aN j o' h1'] at hb';have hne:o≠o':=by
   intro e;subst e;obtain ⟨hi,ei⟩:=zg.1 h1;obtain ⟨hj,ej⟩:=zg.1 h1';exact dI ((List.getElem_inj bR).1 (ei.trans ej.symm))
  exact aB.sep o o' _ _ b base base' hne h2 h2' hb hb'
 ·rw [gv];refine ⟨by simpa using hr.1,fun i a v ha hv=>?_⟩;rw [zzj,zzk] at ha;obtain ⟨x,hx,rfl⟩:=ha;exact (hr.2 i x v hx hv).da hτ
 ·rw [iq] at ho;simp [Gh.da,zzy ho]
 ·rw [aN o o (by rw [hpre,zzi (by rw [js];exact ho),Fs _ _ _ ho,Nat.zero_add])]
 ·obtain ⟨x,hx⟩:=zzv.1 hi;obtain ⟨o,y,h1,h2,_⟩:=ef i x hx;rw [aN i o h1] at hj;exact ⟨o,base,by rw [h2];rfl,hj⟩
theorem Du {B:fh} {D:List Deferred} {n0:Nat} {g:Gh} {st:St} {w:World} {L:SL} {ds:List Deferred} (hp:B.bb<=1000) (keep:List Nat) (hd:Marks D n0 st.h g w ds) :
 Marks D n0 (bh (fl B.bb keep L st)).h (g.da (ik B.bb keep L st)) w ds:=by
 have hN:=Ac st.h fj (AV.names.go (keep.map (lk L))++oo st.h (dz 0 B.bb)) (dz 0 B.bb) (ri _ _);change (ik B.bb keep L st).Nodup/\(∃ r,ik B.bb keep L st=dz 0 B.bb++r)/\(ik B.bb keep L st).length<=_ at hN;unfold fl;generalize ik B.bb keep L st=N at hN;obtain ⟨bR,⟨rest,hpre⟩,hlen⟩:=hN;rw [js] at hlen;have aD:N.length<=c9:=by simp only [fj,c9] at *;omega
 obtain ⟨bs,h1,h2,h3⟩:=hd;refine ⟨bs,h1,h2,fun b hb=>⟨(h3 b hb).1,(h3 b hb).2.1,fun i base hi hj=>?_⟩⟩;obtain ⟨x,hx⟩:=zzv.1 hi;simp only [bh] at hx;rw [uk _ _ _ (by rw [iq];omega),if_pos (zzb _),Nat.sub_zero,uz] at hx;cases hi':N[i]? with
 |none=>rw [hi'] at hx;cases hx
 |some o=>
  rw [hi'] at hx;simp only [Option.map_some,Option.join_some] at hx;cases hy:st.h.get o with
  |none=>rw [hy] at hx;cases hx
  |some y=>
   have:(g.da N).inj i=g.inj o:=by simp [Gh.da,hi']
   rw [this] at hj;exact (h3 b hb).2.2 o base (by rw [hy];rfl) hj
theorem Cd {F:Fence} {n:Nat} {P:Program} [KP P] {c:Code} {Q:Exit->Act->World->Prop} {a:Act} {w:World} (h:∀ X:Act->World->Prop,(∀ a w,c.wpIn F n P (Exit.then X Q) a w->X a w)->X a w):(Code.loop c).wpIn F n P Q a w:=by
 intro b k cs hro hb hr;have key:=h (fun a w=>∃ e a' w',Q e a' w'/\ArrivesIn (Machine.fenced P F) P (lone (b.atR a (.code c :: .inLoop c::k)) cs w) b k cs e a' w') (fun a w hw=>by
  obtain ⟨e,a₁,w₁,hq,harr⟩:=hw b (.inLoop c::k) cs hro hb hr;cases e with
  |normal=>
   obtain ⟨e₂,a₂,w₂,wK,nI⟩:=hq;exact ⟨e₂,a₂,w₂,wK,.of_steps (StepsIn.trans harr (.one (fenced_calm hb hr rfl) stepR_inLoop)) nI⟩
  |exit id=>exact ⟨_,a₁,w₁,hq,.pass (x:=.inLoop c) rfl (fun _ _=>.inl (by simp)) harr⟩
  |goto l=>exact ⟨_,a₁,w₁,hq,.pass (x:=.inLoop c) rfl (fun _ _=>.inl (by simp)) harr⟩
  |ret=>exact ⟨_,a₁,w₁,hq,.pass (x:=.inLoop c) rfl (fun _ _=>.inl (by simp)) harr⟩
  |panic ch=>exact ⟨_,a₁,w₁,hq,.pass (x:=.inLoop c) rfl (fun _ _=>.inl (by simp)) harr⟩
  |outgrown=>exact ⟨_,a₁,w₁,hq,.pass (x:=.inLoop c) rfl (fun _ _=>.inl (by simp)) harr⟩)
 obtain ⟨e,a',w',hq,harr⟩:=key;exact ⟨e,a',w',hq,.of_steps (.one (fenced_calm hb hr rfl) stepR_loop) harr⟩
def T6 (P:Program) (ro:Option Nat) (N:Nat) (B:fh) (nt:NT) (c:Code) (W:QL->SL->St->Prop):Prop:=
 ∀ (Q:QL) (L:SL) (st:St) (g:Gh) (w:World) (a:Act),W Q L st->j8 B g st w->i6 g w nt L a.tmps->Marks B.D B.n0 st.h g w a.defers->c.wpIn (ft ro) N P (Fin B nt Q) a w
theorem arb (bb:Nat) (keep:List Nat) (L:SL) (st:St):ij bb keep L st=keep.map (fun t=>(lk L t).da (fun o=>idx (ik bb keep L st) o 0)):=by unfold ij;rw [gv,List.map_map];rfl
theorem asb {g w nt} {keep:List Nat} {L:SL} {tmps:Array Value} (f:Nat->AV) (hr:i6 g w nt (iz keep (keep.map f)) tmps):bt g w (keep.map f) (keep.map fun t=>tmps.getD t undef):=by refine ⟨by simp,fun i a v ha hv=>?_⟩;rw [zzj,zzk] at ha hv;obtain ⟨t,ht,rfl⟩:=ha;obtain ⟨t',tC,rfl⟩:=hv;rw [ht] at tC;cases tC;have:=hr.2 t;rw [Ym,if_pos (zm ht)] at this;exact this
theorem aqv {g w nt} {tmps:Array Value} (hs:tl nt tmps):∀ (keep:List Nat) (vs:List AV),bt g w vs (keep.map fun t=>tmps.getD t undef)->i6 g w nt (iz keep vs) tmps:=by
 intro keep vs h;refine ⟨hs,fun t=>?_⟩
 induction keep generalizing vs with
 |nil=>exact .bad _
 |cons k ks ih=>
  cases vs with
  |nil=>exact .bad _
  |cons v vs=>
   rw [List.map_cons] at h;simp only [iz,vu];by_cases e:k=t
   ·subst e;rw [if_pos rfl];exact h.head
   ·rw [if_neg e];exact ih vs h.tail
theorem Qi {B:fh} {nt:NT} {g:Gh} {st:St} {w:World} {L:SL} {tmps:Array Value} (aH:B.ll) (hp:B.bb<=1000) (keep:List Nat) {X:List AV->List (Option bo)->Prop} (h:upW B.bb X (ij B.bb keep L st) (fl B.bb keep L st)) (hc:j8 B g st w) (hr:i6 g w nt L tmps) :
 ∃ vs os g',X vs os/\j8 B g' (bh os) w/\i6 g' w nt (iz keep vs) tmps/\(∀ D n0 ds,Marks D n0 (bh (fl B.bb keep L st)).h (g.da (ik B.bb keep L st)) w ds->Marks D n0 (bh os).h g' w ds)/\(∀ b,i5 (g.da (ik B.bb keep L st)) (bh (fl B.bb keep L st)).h b->i5 g' (bh os).h b):=by
 obtain ⟨vs',os',hw,hx⟩:=h;have:=Ha aH hp keep hc hr;have hv:=arb B.bb keep L st;have hrl:=this.2;rw [hv] at hrl;have hk:=asb (L:=L) _ hrl;rw [<- hv] at hk;obtain ⟨h1,h2,h3⟩:=hw;obtain ⟨g',q1,q2,q3,q4,vQ,q5,q6,q7⟩:=h3 _ w _ this.1.ok (fun o ho=>this.1.fresh o (by simpa [bh] using ho) (aH o)) hk;have b:=this.1.base;refine ⟨vs',os',g',hx,⟨q1,fun o ho hf=>q4 o (by simpa [bh] using ho),⟨q3.trans b.b0,fun o ho=>by rw [vQ o (ho.resolve_right (aH o))];exact b.pins o ho,fun b' j hk=>q5 _ _ (b.K b' j hk),b.cell,b.size,b.os,b.tape,b.output,b.frame,fun o c base ho hi=>?_,fun c j hk=>?_,b.sv,b.lp,b.whole⟩,by have:=h2 (by simpa [bh] using this.1.bb);simpa [bh] using this⟩,aqv hr.1 keep vs' q2,fun D n0 ds hm=>?_,fun b hu o base ho hi=>by obtain ⟨o2,aI,e1,e2⟩:=q6 o _ base ho hi;exact hu o2 aI e1 e2⟩
 ·obtain ⟨o2,aI,e1,e2⟩:=q6 o c base ho hi;exact b.own o2 c aI e1 e2
 ·rcases q7 c j hk with h4|⟨o,base,h4,h5⟩
  ·exact b.n8 c j h4
  ·exact .inr (b.own o c base h4 h5)
 ·obtain ⟨bs,e1,e2,e3⟩:=hm;exact ⟨bs,e1,e2,fun b hb=>⟨(e3 b hb).1,(e3 b hb).2.1,fun o base ho hi=>by obtain ⟨o2,aI,p1,p2⟩:=q6 o _ base ho hi;exact (e3 b hb).2.2 o2 aI p1 p2⟩⟩
theorem aB5 {P:Program} [KP P] {ro:Option Nat} {N:Nat} {B:fh} {nt:NT} {c:Code} {W:QL->SL->St->Prop} (aH:B.ll) (hp:B.bb<=1000) (h:T6 P ro N B nt c W):T6 P ro N B nt (.loop c) (tx B.bb W):=by
 intro Q L st g w a hw hc hr hd;obtain ⟨keep,hw⟩:=hw;refine Cd fun Y hY=>?_
 have head:∀ (L:SL) (st:St) (g:Gh) (w:World) (a:Act),upW B.bb (fun vs os=>∀ g w a,j8 B g (bh os) w->i6 g w nt (iz keep vs) a.tmps->Marks B.D B.n0 (bh os).h g w a.defers->Y a w) (ij B.bb keep L st) (fl B.bb keep L st)->j8 B g st w->i6 g w nt L a.tmps->Marks B.D B.n0 st.h g w a.defers->Y a w:=by intro L st g w a hh hc hr hd;obtain ⟨vs',os',g',hx,k1,k2,k3,_⟩:=Qi aH hp keep hh hc hr;exact hx g' w a k1 k2 (k3 _ _ _ (Du hp keep hd))
 have hX:=hw (fun vs os=>∀ g w a,j8 B g (bh os) w->i6 g w nt (iz keep vs) a.tmps->Marks B.D B.n0 (bh os).h g w a.defers->Y a w) (fun vs os hb g w a hc hr hd=>by
  refine hY a w (wpIn_mono (h _ _ _ g w a hb hc hr hd) ?_);rintro ex a' w' ⟨e,L',aA,g',rfl,hq,hc',hr',aW⟩;cases e with
  |normal=>exact head _ _ _ _ _ hq hc' hr' aW
  |exit id=>exact ⟨.exit id,L',aA,g',rfl,hq,hc',hr',aW⟩
  |ret=>exact ⟨.ret,L',aA,g',rfl,hq,hc',hr',aW⟩)
 exact head _ _ _ _ _ hX hc hr hd
theorem tx.ays {α:Type} {bb:Nat} {B:QL->SL->St->Prop} {Q:QL} {L:SL} {st:St} (keep:List Nat) (V : α->List AV) (O : α->List (Option bo)) (I : α->Prop) (μ : α->Nat) (x : α) (hx:I x)
 (hv:jh bb (ij bb keep L st) (fl bb keep L st) (V x) (O x))
 (dQ:∀ (Q Q':QL),(∀ e L st,Q e L st->Q' e L st)->∀ L st,B Q L st->B Q' L st)
 (step:∀ x,I x->B (xl bb keep (fun vs os=>∃ y,I y /\ μ y < μ x/\jh bb vs os (V y) (O y)) Q) (iz keep (V x)) (bh (O x))):tx bb B Q L st:=by
 refine ⟨keep,fun X hX=>⟨_,_,hv,?_⟩⟩;have key:∀ n x,μ x=n->I x->X (V x) (O x):=by
  intro n
  induction n using Nat.strongRecOn with
  |_ n ih=>
   intro x hn hi;refine hX _ _ (dQ _ _ ?_ _ _ (step x hi));intro e L' aA hq;cases e with
   |normal=>
    obtain ⟨y,h1,h2,h3⟩:=hq;exact ⟨_,_,h3,ih (μ y) zO y rfl h1⟩
   |exit id=>exact hq
   |ret=>exact hq
 exact key _ x rfl hx
theorem tx.of {α:Type} {bb:Nat} {B:QL->SL->St->Prop} {Q:QL} {L:SL} {st:St} (keep:List Nat) (V : α->List AV) (O : α->List (Option bo)) (I : α->Prop) (μ : α->Nat) (x : α) (hx:I x)
 (hv:ij bb keep L st=V x) (ho:fl bb keep L st=O x)
 (dQ:∀ (Q Q':QL),(∀ e L st,Q e L st->Q' e L st)->∀ L st,B Q L st->B Q' L st)
 (step:∀ x,I x->B (xl bb keep (fun vs os=>∃ y,I y /\ μ y < μ x/\vs=V y/\os=O y) Q) (iz keep (V x)) (bh (O x))):tx bb B Q L st:=
 tx.ays keep V O I μ x hx (by rw [hv,ho];exact .refl _ _ _) dQ (fun x hi=>dQ _ _ (fun e L' aA hq=>by
  cases e with
  |normal=>
   obtain ⟨y,h1,h2,h3,h4⟩:=hq;refine ⟨y,h1,h2,?_⟩;rw [h3,h4];exact .refl _ _ _
  |exit id=>exact hq
  |ret=>exact hq) _ _ (step x hi))
theorem Ao (h:Tr bo):∀ (F:List Nat) (o:Nat),(∀ p ∈ F,p<=c9)->(j7 h F).get o=if o ∈ F then h.get o else none
 | [],o,_=>by simp [j7,Tr.get_nil]
 |p::r,o,hl=>by
  rw [j7,i4 _ _ _ _ (hl p (by simp)),Ao h r o (fun q hq=>hl q (by simp [hq]))];by_cases e:o=p
  ·subst e;simp
  ·rw [if_neg e];simp [e]
theorem Bh (h1 h:Tr bo):∀ (F:List Nat) (o:Nat),(∀ p ∈ F,p<=c9)->(vm h1 F h).get o=if o ∈ F then h1.get o else h.get o
 | [],o,_=>by simp [vm]
 |p::r,o,hl=>by
  rw [vm,i4 _ _ _ _ (hl p (by simp)),Bh h1 h r o (fun q hq=>hl q (by simp [hq]))];by_cases e:o=p
  ·subst e;simp
  ·rw [if_neg e];simp [e]
theorem Ok.part {g h hm w} (aB:Ok g h w) (hs:∀ o x,hm.get o=some x->h.get o=some x):Ok g hm w:=
 ⟨aB.size,fun o x hx=>aB.mn o x (hs o x hx),fun o o' x x' b base base' hne hx hx'=>aB.sep o o' x x' b base base' hne (hs o x hx) (hs o' x' hx'),aB.K⟩
theorem arj {g h hm w lo hi g' dS w' h'} {S:Nat->Prop} (aB:Ok g h w) (hs:∀ o x,hm.get o=some x->h.get o=some x) (rI:∀ o x,hm.get o=some x->S o)
 (hstep:Step g hm w lo hi g' dS w') (gG:Ok g' dS w') (h1:∀ o,S o->h'.get o=dS.get o) (h2:∀ o,¬ S o->h'.get o=h.get o) (h3:∀ o,lo<=o->o<hi->S o) :
 Step g h w lo hi g' h' w'/\Ok g' h' w':=by
 have cE:∀ o x b base,h.get o=some x->¬ S o->g.inj o=some (b,base)->∀ o' base',(hm.get o').isSome=true->g.inj o'≠some (b,base'):=by
  intro o x b base ho hS hb o' base' bQ hb';obtain ⟨y,hy⟩:=zzv.1 bQ;have hne:o≠o':=fun e=>hS (by rw [e];exact rI o' y hy)
  exact aB.sep o o' x y b base base' hne ho (hs o' y hy) hb hb'
 have Sd:∀ o x,h'.get o=some x->¬ S o->(g'.inj o=none/\I9 x)\/∃ b base,g.inj o=some (b,base)/\g.b0<=b/\b<w.heap.size/\h.get o=some x/\l9 g' w' b base x:=by
  intro o x hx hS;rw [h2 o hS] at hx;refine (aB.mn o x hx).imp (fun q=>⟨hstep.fresh o q.1 (fun hr=>hS (h3 o hr.1 hr.2)),q.2⟩) ?_;rintro ⟨b,base,q1,q2,q3⟩;refine ⟨b,base,q1,q2,q3.lt,hx,q3.ext hstep.ext (hstep.frame b q3.lt (cE o x b base hx hS q1)) (fun j hj=>?_)⟩;rcases hstep.n8 b j hj with h3|h3|⟨o',base',h3,h4⟩
  ·exact h3
  ·have:=q3.lt;omega
  ·exact (cE o x b base hx hS q1 o' base' h3 h4).elim
 have cls:∀ o:Nat,S o\/¬ S o:=fun o=>Classical.em _
 refine ⟨⟨hstep.ext,hstep.size,hstep.os,hstep.tape,hstep.output,fun b hb hn=>?_,hstep.fresh,fun o b base ho hj=>?_,fun b j hK=>?_⟩,⟨?_,fun o x hx=>?_,fun o o' x x' b base base' hne hx hx' hb hb'=>?_,gG.K⟩⟩
 ·refine hstep.frame b hb (fun o base ho hj=>?_);obtain ⟨y,hy⟩:=zzv.1 ho;exact hn o base (by rw [hs o y hy];rfl) hj
 ·obtain ⟨x,hx⟩:=zzv.1 ho;rcases cls o with hS|hS
  ·rw [h1 o hS] at hx;rcases hstep.own o b base (by rw [hx];rfl) hj with h3|⟨o',base',h3,h4⟩
   ·exact .inl h3
   ·obtain ⟨y,hy⟩:=zzv.1 h3;exact .inr ⟨o',base',by rw [hs o' y hy];rfl,h4⟩
  ·rcases Sd o x hx hS with ⟨q0,_⟩|⟨b',base',q1,q2,q3,q4,q5⟩
   ·rw [q0] at hj;cases hj
   have:=hstep.ext.inj o _ q1;rw [hj] at this;cases this;exact .inr ⟨o,base,by rw [q4];rfl,q1⟩
 ·rcases hstep.n8 b j hK with h3|h3|⟨o',base',h3,h4⟩
  ·exact .inl h3
  ·exact .inr (.inl h3)
  ·obtain ⟨y,hy⟩:=zzv.1 h3;exact .inr (.inr ⟨o',base',by rw [hs o' y hy];rfl,h4⟩)
 ·exact gG.size
 ·rcases cls o with hS|hS
  ·rw [h1 o hS] at hx;exact gG.mn o x hx
  ·refine (Sd o x hx hS).imp id ?_;rintro ⟨b',base',q1,q2,q3,q4,q5⟩;exact ⟨b',base',hstep.ext.inj o _ q1,by rw [hstep.ext.b0];exact q2,q5⟩
 ·rcases cls o with hS|hS
  ·rcases cls o' with iZ|iZ
   ·rw [h1 o hS] at hx;rw [h1 o' iZ] at hx';exact gG.sep o o' x x' b base base' hne hx hx' hb hb'
   ·rcases Sd o' x' hx' iZ with ⟨q0,_⟩|⟨b1,aV,q1,q2,q3,q4,q5⟩
    ·rw [q0] at hb';cases hb'
    have:=hstep.ext.inj o' _ q1;rw [hb'] at this;cases this;rw [h1 o hS] at hx;rcases hstep.own o b base (by rw [hx];rfl) hb with h3|⟨o2,aI,h3,h4⟩
    ·omega
    ·exact cE o' x' b base' q4 iZ q1 o2 aI h3 h4
  ·rcases Sd o x hx hS with ⟨q0,_⟩|⟨b1,aV,q1,q2,q3,q4,q5⟩
   ·rw [q0] at hb;cases hb
   have:=hstep.ext.inj o _ q1;rw [hb] at this;cases this;rcases cls o' with iZ|iZ
   ·rw [h1 o' iZ] at hx';rcases hstep.own o' b base' (by rw [hx'];rfl) hb' with h3|⟨o2,aI,h3,h4⟩
    ·omega
    ·exact cE o x b base q4 hS q1 o2 aI h3 h4
   ·rcases Sd o' x' hx' iZ with ⟨q0,_⟩|⟨b2,aI,r1,r2,r3,r4,r5⟩
    ·rw [q0] at hb';cases hb'
    have:=hstep.ext.inj o' _ r1;rw [hb'] at this;cases this;exact aB.sep o o' x x' b base base' hne q4 r4 q1 r1
theorem Step.both {g h w lo hi g' h' w' g'' jC w''} (s:Step g h w lo hi g' h' w') (t:Step g' h' w' lo hi g'' jC w''):Step g h w lo hi g'' jC w'':=by
 refine ⟨s.ext.trans t.ext,zzu s.size t.size,t.os.trans s.os,t.tape.trans s.tape,t.output.trans s.output,fun b hb hn=>?_,fun o ho hr=>t.fresh o (s.fresh o ho hr) hr,fun o b base ho hj=>?_,fun b j hK=>?_⟩
 ·rw [t.frame b (zyc hb s.size) (fun o base ho hj=>?_),s.frame b hb hn];rcases s.own o b base ho hj with hge|⟨o',base',bQ,hj'⟩
  ·omega
  ·exact hn o' base' bQ hj'
 ·rcases t.own o b base ho hj with hge|⟨o',base',bQ,hj'⟩
  ·exact .inl (zzu s.size hge)
  ·exact s.own o' b base' bQ hj'
 ·rcases t.n8 b j hK with h|hge|⟨o',base',bQ,hj'⟩
  ·exact s.n8 b j h
  ·exact .inr (.inl (zzu s.size hge))
  ·rcases s.own o' b base' bQ hj' with hge|hx
   ·exact .inr (.inl hge)
   ·exact .inr (.inr hx)
structure DS where
 o:Oper
 L:SL
 st:St
 want:Bool
 v:AV
 gi:St
 R:List Nat
 W:List Nat
def X0 (ops:Array Oper) (L:SL) (o:Oper):Option Bool:=
 match o.guard with
 |none=>some true
 |some (j,b)=>D6 (lk L (wi ops j)) b
structure DSRun (P:Program) (T:eh) (d:DS):Prop where
 run:d.want=true->gz P T d.o (dj d.o d.L) { h:=j7 d.st.h d.R,nx:=d.st.nx,rl:=[],wl:=[] }=some (d.v,d.gi)/\(∀ p ∈ d.R,p<d.st.nx)/\d.gi.nx<=c9 /\
  (∀ o,o ∈ d.W↔(o ∈ d.W/\o ∈ d.R)\/(d.st.nx<=o/\o<d.gi.nx))/\(∀ o ∈ d.R,o ∉ d.W->d.st.h.get o=d.gi.h.get o)
 skip:d.want=false->d.v = .sc undef/\d.gi.nx=d.st.nx/\d.R=[]/\d.W=[]
structure aGn (P:Program) (T:eh) (ops:Array Oper) (d:DS):Prop extends DSRun P T d where
 g:X0 ops d.L d.o=some d.want
def DS.aok (d:DS):SL:=oq d.o.dst d.v d.L
noncomputable def DS.next (d:DS):St:=bif d.want then { h:=vm d.gi.h (d.R++dz d.st.nx (d.gi.nx - d.st.nx)) d.st.h,nx:=d.gi.nx,rl:=[],wl:=[] } else d.st
def adk:List DS->SL->St->SL->St->Prop
 | [],L,st,L',aA=>L'=L/\aA=st
 |d::r,L,st,L',aA=>d.L=L/\d.st=st/\adk r d.aok d.next L' aA
theorem akn {ops:Array Oper} {L:SL} {o:Oper} {x y:Prop} (h:guarded ops L o.guard x y):∃ b,X0 ops L o=some b/\(b=true->x)/\(b=false->y):=by
 unfold guarded at h;unfold X0;cases hg:o.guard with
 |none=>rw [hg] at h;exact ⟨true,rfl,fun _=>h,fun e=>by cases e⟩
 |some q=>
  obtain ⟨j,b⟩:=q;rw [hg] at h;exact Wn h
theorem axm {ops:Array Oper} {L:SL} {gd:Option (Nat × Bool)} {x y x' y':Prop} (h1:x->x') (h2:y->y') (h:guarded ops L gd x y):guarded ops L gd x' y':=by
 unfold guarded at *
 split at h
 ·exact h1 h
 ·unfold Bk at *
  split at h
  ·exact ⟨fun e=>h1 (h.1 e),fun e=>h2 (h.2 e)⟩
  ·exact h.elim
theorem Uw {P:Program} {T:eh} {o:Oper} {recs:List Rec} {K K':List Rec->SL->St->Prop} {L:SL} {st:St} (hk:∀ r L st,K r L st->K' r L st) (h:adq P T o recs K L st):adq P T o recs K' L st:=by obtain ⟨F,W,v,gi,h1,h2,h3,h4,h5,h6⟩:=h;exact ⟨F,W,v,gi,h1,h2,h3,h4,h5,hk _ _ _ h6⟩
theorem air {P:Program} [KP P] {T:eh} {ops:Array Oper} {K:SL->St->Prop}:∀ (l:List Oper) (recs:List Rec) (L:SL) (st:St),G0 P T ops l K recs L st->Oz P T ops l K recs L st
 | [],_,_,_,h=>h
 |o::r,recs,L,st,h=>axm (fun q=>Uw (fun _ _ _ k=>air r _ _ _ k) (aCp q)) (fun q=>air r _ _ _ q) h
theorem axs {P:Program} [KP P] {T:eh} {ops:Array Oper} {K:SL->St->Prop}:∀ (l:List Oper) (L:SL) (st:St) (recs:List Rec),Oz P T ops l K recs L st ->
 ∃ ds L' aA,ds.map (·.o)=l/\(∀ d ∈ ds,aGn P T ops d)/\adk ds L st L' aA/\ga (Region.before ops) 0 (recs++ds.map fun d=>⟨d.R,d.W⟩)=true/\K L' aA:=by
 intro l
 induction l with
 |nil=>intro L st recs h;exact ⟨[],L,st,rfl,by simp,⟨rfl,rfl⟩,by simpa using h.1,h.2⟩
 |cons o l ih=>
  intro L st recs h;obtain ⟨b,hb,h1,h2⟩:=akn h;cases b with
  |true=>
   obtain ⟨F,W,v,gi,hop,h4,h5,h6,h7,h8⟩:=h1 rfl;obtain ⟨ds,L',aA,e1,e2,e3,e4,e5⟩:=ih _ _ _ h8;have hle:=Dr hop;refine ⟨{ o,L,st,want:=true,v,gi,R:=F,W:=W++dz st.nx (gi.nx - st.nx) }::ds,L',aA,by simp [e1],?_,⟨rfl,rfl,?_⟩,?_,e5⟩
   ·intro d hd;rcases zya.1 hd with rfl|hd
    ·refine ⟨⟨fun _=>⟨hop,h6,h7,fun q=>?_,fun q hq hn=>?_⟩,fun e=>by cases e⟩,hb⟩
     ·simp only [zzq,mh];constructor
      ·rintro (hq|hq)
       ·exact .inl ⟨.inl hq,h4 q hq⟩
       ·exact .inr ⟨hq.1,by simp at hle;omega⟩
      ·rintro (hq|hq)
       ·exact hq.1
       ·exact .inr ⟨hq.1,zO⟩
     ·have:=h5 q hq (fun hw=>hn (zzq.2 (.inl hw)));rw [Ao _ _ _ (fun p hp=>by have:=h6 p hp;simp at hle;omega),if_pos hq] at this;exact this
    ·exact e2 d hd
   ·exact e3
   ·simpa [zzc] using e4
  |false=>
   have h3:=h2 rfl;obtain ⟨ds,L',aA,e1,e2,e3,e4,e5⟩:=ih _ _ _ h3;refine ⟨{ o,L,st,want:=false,v:=.sc undef,gi:=st,R:=[],W:=[] }::ds,L',aA,by simp [e1],?_,⟨rfl,rfl,?_⟩,?_,e5⟩
   ·intro d hd;rcases zya.1 hd with rfl|hd
    ·exact ⟨⟨(fun e=>by cases e),fun _=>⟨rfl,rfl,rfl,rfl⟩⟩,hb⟩
    ·exact e2 d hd
   ·exact e3
   ·simpa [zzc] using e4
noncomputable def ma (ds:List DS) (h0:Tr bo) (D:Nat->Bool):Nat->Nat->Option bo
 |0,o=>h0.get o
 |m+1,o=>
  match ds[m]? with
  |some d=>if D m=true/\o ∈ d.W then d.gi.h.get o else ma ds h0 D m o
  |none=>ma ds h0 D m o
def mc (ds:List DS) (L0:SL) (D:Nat->Bool):Nat->Nat->AV
 |0,t=>lk L0 t
 |m+1,t=>
  match ds[m]? with
  |some d=>if D m=true/\d.o.dst=some t then d.v else mc ds L0 D m t
  |none=>mc ds L0 D m t
def ow (ds:List DS) (n0:Nat):Nat->Nat
 |0=>n0
 |m+1=>
  match ds[m]? with
  |some d=>d.gi.nx
  |none=>ow ds n0 m
theorem aD8 (dst:Option Tmp) (v:AV) (L:SL) (t:Nat):lk (oq dst v L) t=if dst=some t then v else lk L t:=by
 cases dst with
 |none=>simp [oq]
 |some d=>simp [oq,vu]
theorem awp {P:Program} [KP P] {T:eh} {ds:List DS} {L0:SL} {st0:St} {L':SL} {aA:St} (cY:∀ d ∈ ds,DSRun P T d) (hc:adk ds L0 st0 L' aA) :
 (∀ i d,ds[i]? = some d->(∀ t,lk d.L t=mc ds L0 (fun _=>true) i t)/\(∀ o,d.st.h.get o=ma ds st0.h (fun _=>true) i o)/\d.st.nx=ow ds st0.nx i/\d.st.nx<=d.gi.nx) /\
 (∀ t,lk L' t=mc ds L0 (fun _=>true) ds.length t)/\(∀ o,aA.h.get o=ma ds st0.h (fun _=>true) ds.length o)/\aA.nx=ow ds st0.nx ds.length:=by
 have key:∀ (k:Nat) (r:List DS) (L:SL) (st:St),ds.drop k=r->k<=ds.length->adk r L st L' aA->(∀ t,lk L t=mc ds L0 (fun _=>true) k t)->(∀ o,st.h.get o=ma ds st0.h (fun _=>true) k o)->st.nx=ow ds st0.nx k ->
  (∀ i d,k<=i->ds[i]? = some d->(∀ t,lk d.L t=mc ds L0 (fun _=>true) i t)/\(∀ o,d.st.h.get o=ma ds st0.h (fun _=>true) i o)/\d.st.nx=ow ds st0.nx i/\d.st.nx<=d.gi.nx) /\
  (∀ t,lk L' t=mc ds L0 (fun _=>true) ds.length t)/\(∀ o,aA.h.get o=ma ds st0.h (fun _=>true) ds.length o)/\aA.nx=ow ds st0.nx ds.length:=by
  intro k r
  induction r generalizing k with
  |nil=>
   intro L st hr hk hch h1 h2 h3;have hlen:k=ds.length:=by have:=congrArg List.length hr;simp at this;omega
   obtain ⟨rfl,rfl⟩:=hch;subst hlen;refine ⟨fun i d hi hd=>?_,h1,h2,h3⟩;rw [zzy hi] at hd;cases hd
  |cons d r ih=>
   intro L st hr hk hch h1 h2 h3;obtain ⟨rfl,rfl,hch⟩:=hch;have kS:k<ds.length:=by
    rcases zyf k ds.length with h|h
    ·exact h
    ·rw [zzx h] at hr;cases hr
   rw [zzs kS] at hr;injection hr with hd hr
   have mZ:ds[k]? = some d:=by rw [zh kS,hd]
   have aB:=cY d (zm mZ);have hle:d.st.nx<=d.gi.nx:=by
    cases hw:d.want with
    |true=>have:=Dr (aB.run hw).1;exact this
    |false=>rw [(aB.skip hw).2.1];exact zza _
   have hn:=ih (k+1) d.aok d.next hr kS hch (fun t=>?_) (fun o=>?_) ?_
   ·refine ⟨fun i d' hi aW=>?_,hn.2⟩;rcases zyf k i with h|h
    ·exact hn.1 i d' h aW
    ·have:i=k:=zO;subst this;rw [mZ] at aW;cases aW;exact ⟨h1,h2,h3,hle⟩
   ·rw [DS.aok,aD8,mc,mZ];simp only [true_and]
    split
    ·rfl
    ·exact h1 t
   ·rw [DS.next,ma,mZ];cases hw:d.want with
    |true=>
     obtain ⟨r1,r2,r3,r4,r5⟩:=aB.run hw;simp only [cond_true,true_and];rw [Bh _ _ _ _ (fun p hp=>by
      rcases zzq.1 hp with hp|hp
      ·have:=r2 p hp;omega
      ·rw [mh] at hp;omega)]
     by_cases hW:o ∈ d.W
     ·rw [if_pos hW,if_pos];rcases (r4 o).1 hW with hq|hq
      ·exact zzq.2 (.inl hq.2)
      ·exact zzq.2 (.inr (by rw [mh];omega))
     ·rw [if_neg hW];by_cases hR:o ∈ d.R
      ·rw [if_pos (zzq.2 (.inl hR)),<- r5 o hR hW,h2 o]
      ·rw [if_neg,h2 o];intro hm;rcases zzq.1 hm with hm|hm
       ·exact hR hm
       ·rw [mh] at hm;exact hW ((r4 o).2 (.inr zO))
    |false=>
     obtain ⟨s1,s2,s3,s4⟩:=aB.skip hw;simp only [cond_false,s4,List.not_mem_nil,and_false,if_false];exact h2 o
   ·rw [DS.next,ow,mZ];cases hw:d.want with
    |true=>rfl
    |false=>exact (aB.skip hw).2.1.symm
 have:=key 0 ds L0 st0 rfl (zzb _) hc (fun t=>rfl) (fun o=>rfl) rfl;exact ⟨fun i d hd=>this.1 i d (zzb _) hd,this.2⟩
theorem aat {ds:List DS} {h0:Tr bo} {D:Nat->Bool} {i:Nat} {o:Nat} (h:∀ k d,ds[k]? = some d->o ∈ d.W->(D k=true↔k<i)):∀ m,ma ds h0 D m o=ma ds h0 (fun _=>true) (min m i) o
 |0=>by simp [ma]
 |m+1=>by
  have ih:=aat (h0:=h0) h m;rw [ma];cases hd:ds[m]? with
  |none=>
   rcases zyf m i with hm|hm
   ·rw [show min (m+1) i=m+1 from by omega,ma,hd];simp only;rw [ih,show min m i=m from by omega]
   ·simp only;rw [ih,show min (m+1) i=min m i from by omega]
  |some d=>
   simp only;rcases zyf m i with hm|hm
   ·rw [show min (m+1) i=m+1 from by omega,ma,hd];simp only;by_cases hW:o ∈ d.W
    ·rw [if_pos ⟨(h m d hd hW).2 hm,hW⟩,if_pos ⟨by simp,hW⟩]
    ·rw [if_neg (fun e=>hW e.2),if_neg (fun e=>hW e.2),ih,show min m i=m from by omega]
   ·rw [if_neg (fun e=>by have:=(h m d hd e.2).1 e.1;omega),ih,show min (m+1) i=min m i from by omega]
theorem aaz {ds:List DS} {L0:SL} {D:Nat->Bool} {i:Nat} {t:Nat} (h:∀ k d,ds[k]? = some d->d.o.dst=some t->(D k=true↔k<i)):∀ m,mc ds L0 D m t=mc ds L0 (fun _=>true) (min m i) t
 |0=>by simp [mc]
 |m+1=>by
  have ih:=aaz (L0:=L0) h m;rw [mc];cases hd:ds[m]? with
  |none=>
   rcases zyf m i with hm|hm
   ·rw [show min (m+1) i=m+1 from by omega,mc,hd];simp only;rw [ih,show min m i=m from by omega]
   ·simp only;rw [ih,show min (m+1) i=min m i from by omega]
  |some d=>
   simp only;rcases zyf m i with hm|hm
   ·rw [show min (m+1) i=m+1 from by omega,mc,hd];simp only;by_cases hW:d.o.dst=some t
    ·rw [if_pos ⟨(h m d hd hW).2 hm,hW⟩,if_pos ⟨by simp,hW⟩]
    ·rw [if_neg (fun e=>hW e.2),if_neg (fun e=>hW e.2),ih,show min m i=m from by omega]
   ·rw [if_neg (fun e=>by have:=(h m d hd e.2).1 e.1;omega),ih,show min (m+1) i=min m i from by omega]
def wt (D:Nat->Bool) (i:Nat):Nat->Bool:=fun k=>if k=i then true else D k
theorem aeh {ds:List DS} {h0:Tr bo} {D:Nat->Bool} {i:Nat} {d:DS} {o:Nat} (hi:ds[i]? = some d) (h:o ∈ d.W->∀ k e,ds[k]? = some e->i<k->o ∈ e.W->D k=false) :
 ∀ m,ma ds h0 (wt D i) m o=if o ∈ d.W/\i<m then d.gi.h.get o else ma ds h0 D m o
 |0=>by simp [ma]
 |m+1=>by
  have ih:=aeh (h0:=h0) hi h m;rw [ma];cases hd:ds[m]? with
  |none=>
   simp only;rw [ih,ma,hd];have:m≠i:=fun e=>by subst e;rw [hi] at hd;cases hd
   by_cases hm:i<m
   ·simp [hm,Nat.lt_succ_of_lt hm]
   ·simp [hm,show ¬ i<m+1 from by omega]
  |some e=>
   simp only;rw [ma,hd];by_cases hm:m=i
   ·subst hm;rw [hi] at hd;cases hd;simp only [wt,if_true,true_and];by_cases hW:o ∈ d.W
    ·simp [hW]
    ·rw [ih];simp [hW]
   ·simp only [wt,if_neg hm];by_cases hW:o ∈ d.W
    ·by_cases hlt:i<m
     ·by_cases he:o ∈ e.W
      ·have:=h hW m e hd hlt he;rw [this,if_neg (by simp),ih];simp [hW,hlt,Nat.lt_succ_of_lt hlt]
      ·rw [if_neg (fun q=>he q.2),ih];simp [hW,hlt,Nat.lt_succ_of_lt hlt]
     ·have hl2:¬ i<m+1:=zO;rw [ih];simp [hlt,hl2]
    ·rw [ih];simp [hW]
theorem ag2 {ds:List DS} {L0:SL} {D:Nat->Bool} {i:Nat} {d:DS} {t:Nat} (hi:ds[i]? = some d) (h:d.o.dst=some t->∀ k e,ds[k]? = some e->i<k->e.o.dst=some t->D k=false) :
 ∀ m,mc ds L0 (wt D i) m t=if d.o.dst=some t/\i<m then d.v else mc ds L0 D m t
 |0=>by simp [mc]
 |m+1=>by
  have ih:=ag2 (L0:=L0) hi h m;rw [mc];cases hd:ds[m]? with
  |none=>
   simp only;rw [ih,mc,hd];have:m≠i:=fun e=>by subst e;rw [hi] at hd;cases hd
   by_cases hm:i<m
   ·simp [hm,Nat.lt_succ_of_lt hm]
   ·simp [hm,show ¬ i<m+1 from by omega]
  |some e=>
   simp only;rw [mc,hd];by_cases hm:m=i
   ·subst hm;rw [hi] at hd;cases hd;simp only [wt,if_true,true_and];by_cases hW:d.o.dst=some t
    ·simp [hW]
    ·rw [ih];simp [hW]
   ·simp only [wt,if_neg hm];by_cases hW:d.o.dst=some t
    ·by_cases hlt:i<m
     ·by_cases he:e.o.dst=some t
      ·have:=h hW m e hd hlt he;rw [this,if_neg (by simp),ih];simp [hW,hlt,Nat.lt_succ_of_lt hlt]
      ·rw [if_neg (fun q=>he q.2),ih];simp [hW,hlt,Nat.lt_succ_of_lt hlt]
     ·have hl2:¬ i<m+1:=zO;rw [ih];simp [hlt,hl2]
    ·rw [ih];simp [hW]
theorem Uu {acc:Array Nat} {k:Nat}:∀ (l:List Edge) (s0:Nat),(l.foldl (fun s e=>if Region.binds .any e then s ||| 2 ^ e.on ||| acc.getD e.on 0 else s) s0).testBit k=true ->
 s0.testBit k=true\/∃ e ∈ l,Region.binds .any e=true/\(k=e.on\/(acc.getD e.on 0).testBit k=true)
 | [],s0,h=>.inl h
 |e::l,s0,h=>by
  simp only [List.foldl_cons] at h;rcases Uu l _ h with h1|⟨e',he,h1,h2⟩
  ·by_cases hb:Region.binds .any e=true
   ·rw [if_pos hb] at h1;simp only [Nat.testBit_or,Bool.or_eq_true,Nat.testBit_two_pow,decide_eq_true_eq] at h1;rcases h1 with (h1|h1)|h1
    ·exact .inl h1
    ·exact .inr ⟨e,by simp,hb,.inl h1.symm⟩
    ·exact .inr ⟨e,by simp,hb,.inr h1⟩
   ·rw [if_neg hb] at h1;exact .inl h1
  ·exact .inr ⟨e',by simp [he],h1,h2⟩
def pv (acc:Array Nat) (o:Oper):Array Nat:=acc.push (o.after.foldl (fun s e=>if Region.binds .any e then s ||| 2 ^ e.on ||| acc.getD e.on 0 else s) 0)
theorem akw (ops:Array Oper):Region.before ops=ops.toList.foldl pv #[]:=by unfold Region.before;rw [<- Array.foldl_toList];rfl
theorem H0 {a:Array Nat} {i k:Nat} (h:(a.getD i 0).testBit k=true):i<a.size:=by
 rcases zyf i a.size with h1|h1
 ·exact h1
 ·rw [zze,Array.getElem?_eq_none h1] at h;simp at h
theorem ayf (l:List Oper):(l.foldl pv #[]).size=l.length/\∀ i k,((l.foldl pv #[]).getD i 0).testBit k=true ->
 ∃ o,l[i]? = some o/\∃ e ∈ o.after,Region.binds .any e=true/\(k=e.on\/((l.foldl pv #[]).getD e.on 0).testBit k=true):=by
 suffices h:∀ r:List Oper,(r.reverse.foldl pv #[]).size=r.length/\∀ i k,((r.reverse.foldl pv #[]).getD i 0).testBit k=true ->
  ∃ o,r.reverse[i]? = some o/\∃ e ∈ o.after,Region.binds .any e=true/\(k=e.on\/((r.reverse.foldl pv #[]).getD e.on 0).testBit k=true) by
  have:=h l.reverse;simpa using this
 intro r
 induction r with
 |nil=>exact ⟨rfl,fun i k h=>by have:=H0 h;simp at this⟩
 |cons o r ih=>
  rw [List.reverse_cons,List.foldl_append];generalize hb:r.reverse.foldl pv #[]=b at ih;obtain ⟨h1,h2⟩:=ih;simp only [List.foldl_cons,List.foldl_nil];have hsz:(pv b o).size=r.length+1:=by simp [pv,h1]
  have ef:∀ i,i<b.size->(pv b o).getD i 0=b.getD i 0:=by intro i hi;simp only [pv,zze,Array.getElem?_push];rw [if_neg zO]
  refine ⟨by simpa using hsz,fun i k h=>?_⟩;have hi:=H0 h;rw [hsz] at hi;by_cases hlt:i<b.size
  ·rw [ef i hlt] at h;obtain ⟨o',ho,e,he,fW,hk⟩:=h2 i k h;refine ⟨o',by rw [zzi (by simp;omega)];exact ho,e,he,fW,hk.imp id fun hk=>?_⟩;rw [ef _ (H0 hk)];exact hk
  ·have qX:i=r.length:=zO;have hv:(pv b o).getD i 0=o.after.foldl (fun s e=>if Region.binds .any e then s ||| 2 ^ e.on ||| b.getD e.on 0 else s) 0:=by
    simp only [pv,zze,Array.getElem?_push];rw [if_pos zO];rfl
   rw [hv,<- Array.foldl_toList] at h;rcases Uu _ _ h with h3|⟨e,he,fW,hk⟩
   ·simp at h3
   ·refine ⟨o,by rw [zzd (by simp;omega)];simp [qX],e,by simpa using he,fW,hk.imp id fun hk=>?_⟩;rw [ef _ (H0 hk)];exact hk
theorem alj {ops:Array Oper} {i k:Nat} (h:((Region.before ops).getD i 0).testBit k=true) :
 ∃ o,ops[i]? = some o/\∃ e ∈ o.after,Region.binds .any e=true/\(k=e.on\/((Region.before ops).getD e.on 0).testBit k=true):=by
 rw [akw] at h ⊢;obtain ⟨o,ho,r⟩:=(ayf ops.toList).2 i k h;exact ⟨o,by simpa using ho,r⟩
theorem Zw {a b:List Nat} (h:ua a b=true) {o:Nat} (ha:o ∈ a) (hb:o ∈ b):False:=(aqh a b).1 h o ha hb
theorem Rj {before:Array Nat} {i:Nat} {a:Rec}:∀ (r:List Rec) (j:Nat),Qb before i a j r=true->∀ k b,r[k]? = some b->Kq before i (j+k) a b=true
 | [],j,_,k,b,h=>by simp at h
 |c::r,j,h,k,b,hk=>by
  simp only [Qb,zzh] at h;cases k with
  |zero=>simp at hk;subst hk;exact h.1
  |succ k=>have:=Rj r (j+1) h.2 k b (by simpa using hk);rwa [show j+1+k=j+(k+1) from by omega] at this
theorem Sf {before:Array Nat}:∀ (r:List Rec) (j:Nat),ga before j r=true->∀ i k a b,i<k->r[i]? = some a->r[k]? = some b->Kq before (j+i) (j+k) a b=true
 | [],j,_,i,k,a,b,_,h,_=>by simp at h
 |c::r,j,h,i,k,a,b,hlt,hi,hk=>by
  simp only [ga,zzh] at h;obtain ⟨k,rfl⟩:∃ q,k=q+1:=⟨k - 1,zO⟩;cases i with
  |zero=>simp at hi;subst hi;have:=Rj r (j+1) h.1 k b (by simpa using hk);rwa [show j+1+k=j+(k+1) from by omega] at this
  |succ i=>
   have:=Sf r (j+1) h.2 i k a b zO (by simpa using hi) (by simpa using hk)
   rwa [show j+1+i=j+(i+1) from by omega,show j+1+k=j+(k+1) from by omega] at this
def Kg (ops:Array Oper) (D:Nat->Bool):Prop:=∀ i k,D i=true->((Region.before ops).getD i 0).testBit k=true->D k=true
theorem G3 {ops:Array Oper} {D:Nat->Bool} {i:Nat} {o:Oper} (hc:Kg ops D) (ho:ops[i]? = some o) (hr:∀ e ∈ o.after,Region.binds .any e=true->D e.on=true) :
 ∀ k,((Region.before ops).getD i 0).testBit k=true->D k=true:=by
 intro k hk;obtain ⟨o',bQ,e,he,hb,h⟩:=alj hk;rw [ho] at bQ;cases bQ;rcases h with rfl|h
 ·exact hr e he hb
 ·exact hc e.on k (hr e he hb) h
theorem Kg.wt {ops:Array Oper} {D:Nat->Bool} {i:Nat} {o:Oper} (hc:Kg ops D) (ho:ops[i]? = some o) (hr:∀ e ∈ o.after,Region.binds .any e=true->D e.on=true):Kg ops (wt D i):=by
 intro j k hj hk;have:D k=true:=by
  by_cases e:j=i
  ·subst e;exact G3 hc ho hr k hk
  ·simp only [Vm.wt,if_neg e] at hj;exact hc j k hj hk
 simp only [Vm.wt];split
 ·rfl
 ·exact this
def left (D:Nat->Bool):Nat->Nat
 |0=>0
 |m+1=>left D m+(bif D m then 0 else 1)
theorem aeq {D:Nat->Bool} {i:Nat} (hi:D i=false):∀ m,left (wt D i) m+(if i<m then 1 else 0)=left D m
 |0=>by simp [left]
 |m+1=>by
  have ih:=aeq hi m;simp only [left,wt];by_cases e:m=i
  ·subst e;simp only [if_true,cond_true,hi,cond_false] at *;simp only [Nat.lt_irrefl,if_false,Nat.lt_succ_self,if_true] at *;omega
  ·rw [if_neg e];by_cases h:i<m
   ·rw [if_pos h] at ih;rw [if_pos zO];omega
   ·rw [if_neg h] at ih;rw [if_neg zO];omega
theorem aax {D:Nat->Bool}:∀ m,left D m=0->∀ k,k<m->D k=true
 |0,_,k,h=>by omega
 |m+1,h,k,hk=>by
  simp only [left] at h;by_cases e:k=m
  ·subst e;cases hd:D k with
   |true=>rfl
   |false=>rw [hd] at h;simp at h
  ·exact aax m zO k zO
theorem Ut {D:Nat->Bool}:∀ m,(∃ k,k<m/\D k=false)->∃ k,k<m/\D k=false/\∀ j,j<k->D j=true
 |0,⟨k,h,_⟩=>by omega
 |m+1,⟨k,hk,hd⟩=>by
  by_cases h:∃ k,k<m/\D k=false
  ·obtain ⟨j,h1,h2,h3⟩:=Ut m h;exact ⟨j,zO,h2,h3⟩
  ·have hall:∀ j,j<m->D j=true:=fun j hj=>by
    cases xP:D j with
    |true=>rfl
    |false=>exact (h ⟨j,hj,xP⟩).elim
   have:k=m:=by
    rcases zyf k m with h1|h1
    ·rw [hall k h1] at hd;cases hd
    ·omega
   subst this;exact ⟨k,zO,hd,hall⟩
theorem ss {ds:List DS} {n0:Nat} (h:∀ i d,ds[i]? = some d->d.st.nx=ow ds n0 i/\d.st.nx<=d.gi.nx):∀ m i,i<=m->ow ds n0 i<=ow ds n0 m
 |0,i,hi=>by rw [show i=0 from by omega];exact zza _
 |m+1,i,hi=>by
  by_cases e:i=m+1
  ·subst e;exact zza _
  ·have ih:=ss h m i zO;refine zzu ih ?_;rw [ow.eq_2];cases hd:ds[m]? with
   |none=>exact zza _
   |some d=>obtain ⟨h1,h2⟩:=h m d hd;simp only;omega
theorem apr {ops:Array Oper} {o:Oper} {g w nt b} {L:SL} {tmps:Array Value} (hsz:tmps.size=nt) (hs:∀ j b,o.guard=some (j,b)->∃ d,((ops[j]?).bind (·.dst))=some d/\d<nt)
 (hr:∀ j c,o.guard=some (j,c)->Rel g w (lk L (wi ops j)) (tmps.getD (wi ops j) undef)) (h:X0 ops L o=some b):Region.wanted o (yielded ops tmps)=b:=by
 unfold X0 at h;unfold Region.wanted;cases hg:o.guard with
 |none=>rw [hg] at h;simpa using h
 |some q=>
  obtain ⟨j,c⟩:=q;obtain ⟨d,hd,hlt⟩:=hs j c hg;have hrel:=hr j c hg;rw [hg] at h;have rC:wi ops j=d:=by unfold wi;rw [hd];rfl
  dsimp only at h ⊢;rw [rC] at h hrel;rw [S9 c hd (by rw [hsz];exact hlt)];exact Xg hrel h
theorem aow {g w} {o:Oper} {L:SL} {a:Act} (h:∀ t,(∃ x ∈ o.op.operands.toList,x = .tmp t)->Rel g w (lk L t) (a.tmps.getD t undef)):n7 g w (dj o L) a.eval:=by
 intro x;cases x with
 |tmp t=>
  simp only [dj];cases hb:o.op.operands.any (fun x=>match x with|.tmp u=>Nat.beq u t|_=>false) with
  |false=>exact .bad _
  |true=>
   rw [cond_true];refine h t ?_;rw [Array.any_eq_true'] at hb;obtain ⟨y,hy,hb⟩:=hb;refine ⟨y,by simpa using hy,?_⟩;cases y with
   |tmp u=>simp at hb;rw [hb]
   |_=>cases hb
 |const v=>exact .sc v
 |global g'=>exact .sc _
 |func f=>exact .sc _
structure Dv (P:Program) (T:eh) (ops:Array Oper) (ds:List DS) (L0:SL) (st0:St) (L':SL) (aA:St):Prop where
 os:ds.map (·.o)=ops.toList
 ok:∀ d ∈ ds,DSRun P T d
 Rk:∀ i d,ds[i]? = some d->(∀ t,lk d.L t=mc ds L0 (fun _=>true) i t)/\(∀ o,d.st.h.get o=ma ds st0.h (fun _=>true) i o)/\d.st.nx=ow ds st0.nx i/\d.st.nx<=d.gi.nx
 fin:(∀ t,lk L' t=mc ds L0 (fun _=>true) ds.length t)/\(∀ o,aA.h.get o=ma ds st0.h (fun _=>true) ds.length o)/\aA.nx=ow ds st0.nx ds.length
 slots:∀ i k a b t,i≠k->ds[i]? = some a->ds[k]? = some b->t ∈ Bl ops a.o->b.o.dst=some t->((Region.before ops).getD (max i k) 0).testBit (min i k)=true
 aFv:∀ (i:Nat) o,ops[i]? = some o->∀ e ∈ o.after,Region.binds .any e=true->e.on<i
theorem Dv.get {P T ops ds L0 st0 L' aA} [KP P] (h:Dv P T ops ds L0 st0 L' aA) {i:Nat} {d:DS} (hd:ds[i]? = some d):ops[i]? = some d.o:=by have:=congrArg (·[i]?) h.os;simp only [zzj,hd,Option.map_some] at this;simpa using this.symm
theorem Dv.len {P T ops ds L0 st0 L' aA} [KP P] (h:Dv P T ops ds L0 st0 L' aA):ds.length=ops.size:=by have:=congrArg List.length h.os;simpa using this
theorem Dv.has {P T ops ds L0 st0 L' aA} [KP P] (h:Dv P T ops ds L0 st0 L' aA) {i:Nat} (hi:i<ops.size):∃ d,ds[i]? = some d:=⟨ds[i]'(by rw [h.len];exact hi),by simp⟩
def Calm (ops:Array Oper) (ds:List DS):Prop:=∀ i k a b,i<k->ds[i]? = some a->ds[k]? = some b->((Region.before ops).getD k 0).testBit i=true\/(ua a.W b.R=true/\ua a.W b.W=true/\ua a.R b.W=true)
theorem adz {P:Program} [KP P] {T:eh} {ops:Array Oper} {ds:List DS} {L0:SL} {st0:St} {L':SL} {aA:St} (R:Dv P T ops ds L0 st0 L' aA) (C:Calm ops ds) {D:Nat->Bool} {i:Nat} {d:DS} (hi:ds[i]? = some d) (hD:D i=false) (hcl:Kg ops D)
 (hr:∀ e ∈ d.o.after,Region.binds .any e=true->D e.on=true) :
 (∀ o ∈ d.R,ma ds st0.h D ds.length o=d.st.h.get o)/\∀ o,ma ds st0.h (wt D i) ds.length o=if o ∈ d.W then d.gi.h.get o else ma ds st0.h D ds.length o:=by
 have ho:=R.get hi;have hlt:i<ds.length:=(zg.1 hi).1;obtain ⟨a1,a2,a3,a4⟩:=R.Rk i d hi;have kH:=G3 hcl ho hr;have late:∀ k e,ds[k]? = some e->i<k->(ua d.W e.W=false\/ua d.R e.W=false)->D k=false:=by
  intro k e hk hik hap;cases rW:D k with
  |false=>rfl
  |true=>
   rcases C i k d e hik hi hk with h6|⟨_,h6,h7⟩
   ·have:=hcl k i rW h6;rw [hD] at this;cases this
   ·rcases hap with q|q
    ·rw [h6] at q;cases q
    ·rw [h7] at q;cases q
 have sZ:∀ {x y:List Nat} {o:Nat},o ∈ x->o ∈ y->ua x y=false:=by
  intro x y o hx hy;cases he:ua x y with
  |false=>rfl
  |true=>exact (Zw he hx hy).elim
 refine ⟨fun o tK=>?_,fun o=>?_⟩
 ·have:=aat (h0:=st0.h) (D:=D) (i:=i) (o:=o) (ds:=ds) (fun k e hk he=>?_) ds.length
  ·rw [this,a2 o];congr 1;omega
  ·rcases Nat.lt_trichotomy k i with eD|rfl|qZ
   ·refine ⟨fun _=>eD,fun _=>?_⟩;rcases C k i e d eD hk hi with h6|⟨h6,_,_⟩
    ·exact kH k h6
    ·exact (Zw h6 he tK).elim
   ·exact ⟨(fun q=>by rw [hD] at q;cases q),(fun q=>by omega)⟩
   ·exact ⟨(fun q=>by have:=late k e hk qZ (.inr (sZ tK he));rw [this] at q;cases q),(fun q=>by omega)⟩
 ·rw [aeh hi (fun hW k e hk hik he=>late k e hk hik (.inl (sZ hW he)))];by_cases hW:o ∈ d.W
  ·rw [if_pos ⟨hW,hlt⟩,if_pos hW]
  ·rw [if_neg (fun q=>hW q.1),if_neg hW]
structure At (H:(Nat->Bool)->Nat->Option bo) (ops:Array Oper) (ds:List DS) (L0:SL) (g0:Gh) (st0:St) (w0:World) (df:List Deferred) (nt:NT) (hi:Nat) (D:Nat->Bool) (a:Act) (w:World):Prop where
 mem:∃ g h,(∀ o,h.get o=H D o)/\Ok g h w/\Step g0 st0.h w0 st0.nx hi g h w/\(∀ t,Rel g w (mc ds L0 D ds.length t) (a.tmps.getD t undef)) /\
  (∀ i d,ds[i]? = some d->D i=false->∀ o,d.st.nx<=o->o<d.gi.nx->g.inj o=none)
 size:tl nt a.tmps
 defers:a.defers=df
 closed:Kg ops D
theorem awn {a:Act} {dst:Option Tmp} {u:Value} {t:Nat} (hd:∀ d,dst=some d->d<a.tmps.size):(a.put dst u).tmps.getD t undef=if dst=some t then u else a.tmps.getD t undef:=by
 cases dst with
 |none=>simp [Act.put]
 |some d=>
  simp only [Act.put,zze,zzz,Option.some.injEq];by_cases e:d=t
  ·subst e;rw [if_pos rfl,if_pos rfl,if_pos (hd d rfl)];rfl
  ·rw [if_neg e,if_neg e]
theorem At.step {H:(Nat->Bool)->Nat->Option bo} {P:Program} [KP P] {T:eh} (hT:Po P T) {ops:Array Oper} {ds:List DS} {L0:SL} {g0:Gh} {st0:St} {w0:World} {df:List Deferred} {ro:Option Nat} {N:Nat} {nt:NT} {L':SL} {aA:St} (R:Dv P T ops ds L0 st0 L' aA) (hg:rj nt ops=true) (fL:xc nt ops=true)
 {D:Nat->Bool} {a:Act} {w:World} {i:Nat} {d:DS} (hi:ds[i]? = some d) (mS:X0 ops d.L d.o=some d.want) (obj:∀ o ∈ d.R,H D o=d.st.h.get o) (lJ:∀ o,H (wt D i) o=if o ∈ d.W then d.gi.h.get o else H D o) (hD:D i=false) (hr:∀ e ∈ d.o.after,Region.binds .any e=true->D e.on=true) (A:At H ops ds L0 g0 st0 w0 df nt (ow ds st0.nx ds.length) D a w)
 {Q:Exit->Act->World->Prop} {K:Act->World->Prop} (hK:∀ a' w',At H ops ds L0 g0 st0 w0 df nt (ow ds st0.nx ds.length) (wt D i) a' w'->K a' w'):wpOpIn (ft ro) N P ops Q i K a w:=by
 have ho:=R.get hi;have hlt:i<ds.length:=(zg.1 hi).1;have hmem:d.o ∈ ops:=Array.mem_of_getElem? ho;have aB:=R.ok d (zm hi);obtain ⟨a1,a2,a3,a4⟩:=R.Rk i d hi;have kH:=G3 A.closed ho hr;have hcl:=A.closed.wt ho hr;obtain ⟨g,h,h1,h2,h3,h4,h5⟩:=A.mem;have slot:∀ t ∈ Bl ops d.o,mc ds L0 D ds.length t=lk d.L t:=by
  intro t ht;have:=aaz (L0:=L0) (D:=D) (i:=i) (t:=t) (ds:=ds) (fun k e hk he=>?_) ds.length
  ·rw [this,a1 t];congr 1;omega
  ·rcases Nat.lt_trichotomy k i with eD|rfl|qZ
   ·have:=R.slots i k d e t zO hi hk ht he;rw [show max i k=i from by omega,show min i k=k from by omega] at this;exact ⟨fun _=>eD,fun _=>kH k this⟩
   ·exact ⟨(fun q=>by rw [hD] at q;cases q),(fun q=>by omega)⟩
   ·have:=R.slots i k d e t zO hi hk ht he;rw [show max i k=k from by omega,show min i k=i from by omega] at this;exact ⟨(fun q=>by have:=A.closed k i q this;rw [hD] at this;cases this),(fun q=>by omega)⟩
 have eM:∀ t,d.o.dst=some t->∀ k e,ds[k]? = some e->i<k->e.o.dst=some t->D k=false:=by
  intro t ht k e hk hik he;have hu:t ∈ Bl ops d.o:=by simp [Bl,ht]
  have:=R.slots i k d e t zO hi hk hu he;rw [show max i k=k from by omega,show min i k=i from by omega] at this;cases rW:D k with
  |false=>rfl
  |true=>have:=A.closed k i rW this;rw [hD] at this;cases this
 have iF:Region.wanted d.o (yielded ops a.tmps)=d.want:=by
  refine apr (g:=g) (w:=w) A.size.size (Ge hg hmem) (fun j c hgd=>?_) mS;have hu:wi ops j ∈ Bl ops d.o:=by simp [Bl,hgd]
  rw [<- slot _ hu];exact h4 _
 have eU:∀ (g':Gh) (w':World) (v:AV) (u:Value),(∀ t,Rel g' w' (mc ds L0 D ds.length t) (a.tmps.getD t undef))->Rel g' w' v u->d.v=v->∀ t,Rel g' w' (mc ds L0 (wt D i) ds.length t) ((a.put d.o.dst u).tmps.getD t undef):=by
  intro g' w' v u hall hv e t;rw [awn (fun q hq=>by rw [A.size.size];exact (NT.J1 (pg fL hmem q hq)).1),ag2 hi (eM t)];by_cases hd:d.o.dst=some t
  ·rw [if_pos ⟨hd,hlt⟩,if_pos hd,e];exact hv
  ·rw [if_neg (fun q=>hd q.1),if_neg hd];exact hall t
 have bE:∀ i d,ds[i]? = some d->d.st.nx=ow ds st0.nx i/\d.st.nx<=d.gi.nx:=fun i d hd=>⟨(R.Rk i d hd).2.2.1,(R.Rk i d hd).2.2.2⟩
 have sX:ow ds st0.nx (i+1)=d.gi.nx:=by rw [ow,hi]
 have free':∀ (g':Gh),(∀ o,g.inj o=none->¬ (d.st.nx<=o/\o<d.gi.nx)->g'.inj o=none)->∀ k e,ds[k]? = some e->wt D i k=false->∀ o,e.st.nx<=o->o<e.gi.nx->g'.inj o=none:=by
  intro g' hf k e hk qV o q1 q2;have tN:k≠i:=fun q=>by subst q;simp [wt] at qV
  simp only [wt,if_neg tN] at qV;refine hf o (h5 k e hk qV o q1 q2) (fun q=>?_);obtain ⟨e1,e2⟩:=bE k e hk;rcases Nat.lt_or_gt_of_ne tN with hl|hl
  ·have:=ss bE i (k+1) zO;rw [ow.eq_2,hk] at this;simp only at this;omega
  ·have:=ss bE k (i+1) zO;rw [sX] at this;omega
 unfold wpOpIn;rw [ho];dsimp only;cases hw:d.want with
 |false=>
  rw [iF,hw,if_neg (by simp)];refine ⟨lh ro P d.o a w,?_⟩;obtain ⟨s1,s2,s3,s4⟩:=aB.skip hw;refine hK _ _ ⟨⟨g,h,fun o=>?_,h2,h3,eU g w (.sc undef) undef h4 (.sc _) s1,free' g (fun o q _=>q)⟩,A.size.put (pg fL hmem),by rw [put_defers];exact A.defers,hcl⟩;rw [h1 o,lJ o,if_neg (fun q=>by rw [s4] at q;cases q)]
 |true=>
  rw [iF,hw,if_pos rfl];obtain ⟨r1,lD,r3,r4,r5⟩:=aB.run hw;have r2:∀ p ∈ d.R,p<=c9:=fun p hp=>by have:=lD p hp;omega
  have aU:∀ o x,(j7 d.st.h d.R).get o=some x->h.get o=some x:=by
   intro o x hx;rw [Ao _ _ _ r2] at hx;by_cases hR:o ∈ d.R
   ·rw [if_pos hR] at hx;rw [h1 o,obj o hR,hx]
   ·rw [if_neg hR] at hx;cases hx
  have bF:nk g { h:=j7 d.st.h d.R,nx:=d.st.nx,rl:=[],wl:=[] } d.gi:=fun o q1 q2=>h5 i d hi hD o q1 q2
  have hrel:n7 g w (dj d.o d.L) a.eval:=aow fun t ⟨x,hx,e⟩=>by
   have hu:t ∈ Bl ops d.o:=by simp only [Bl,zzq,List.mem_filterMap];exact .inl (.inr ⟨x,hx,by rw [e]⟩)
   rw [<- slot t hu];exact h4 t
  have bG:Low { h:=j7 d.st.h d.R,nx:=d.st.nx,rl:=[],wl:=[] }:=fun o x hx=>by
   simp only [Ao _ _ _ r2] at hx;by_cases hR:o ∈ d.R
   ·exact lD o hR
   ·rw [if_neg hR] at hx;cases hx
  refine avn hT (h2.part aU) bF bG hrel r1 ro N _ _ ?_;rintro u w' ⟨g',q1,q2,q3⟩;have ln:∀ p ∈ d.R++dz d.st.nx (d.gi.nx - d.st.nx),p<=c9:=fun p hp=>by
   rcases zzq.1 hp with hp|hp
   ·exact r2 p hp
   ·rw [mh] at hp;omega
  have tQ:=arj (h':=vm d.gi.h (d.R++dz d.st.nx (d.gi.nx - d.st.nx)) h) (S:=fun o=>o ∈ d.R++dz d.st.nx (d.gi.nx - d.st.nx)) h2 aU (fun o x hx=>by
   rw [Ao _ _ _ r2] at hx;by_cases hR:o ∈ d.R
   ·exact zzq.2 (.inl hR)
   ·rw [if_neg hR] at hx;cases hx) q1 q2 (fun o hS=>by rw [Bh _ _ _ _ ln,if_pos hS]) (fun o hS=>by rw [Bh _ _ _ _ ln,if_neg hS]) (fun o e1 e2=>zzq.2 (.inr (by have kZ:d.st.nx<=o:=e1;have kY:o<d.gi.nx:=e2;rw [mh];omega)))
  have n1:st0.nx<=d.st.nx:=by rw [a3];exact ss bE i 0 (zzb _)
  have n2:d.gi.nx<=ow ds st0.nx ds.length:=by rw [<- sX];exact ss bE ds.length (i+1) hlt
  refine hK _ _ ⟨⟨g',_,fun o=>?_,tQ.2,h3.both (tQ.1.aq7 n1 n2),eU g' w' d.v u (fun t=>(h4 t).ext q1.ext) q3 rfl,free' g' (fun o e1 e2=>q1.fresh o e1 e2)⟩,A.size.put (pg fL hmem),by rw [put_defers];exact A.defers,hcl⟩;rw [Bh _ _ _ _ ln,lJ o];by_cases hW:o ∈ d.W
  ·rw [if_pos hW,if_pos];rcases (r4 o).1 hW with hq|hq
   ·exact zzq.2 (.inl hq.2)
   ·exact zzq.2 (.inr (by rw [mh];omega))
  ·rw [if_neg hW];by_cases hR:o ∈ d.R
   ·rw [if_pos (zzq.2 (.inl hR)),<- r5 o hR hW,obj o hR]
   ·rw [if_neg,h1 o];intro hm;rcases zzq.1 hm with hm|hm
    ·exact hR hm
    ·rw [mh] at hm;exact hW ((r4 o).2 (.inr zO))
theorem ax8 {listed:Array Bool} {i:Nat} (hi:i<listed.size):(fun k=>(listed.setIfInBounds i true).getD k false)=wt (fun k=>listed.getD k false) i:=by
 funext k
 simp only [wt,zze,zzz];by_cases e:i=k
 ·subst e;simp [hi]
 ·rw [if_neg e,if_neg (Ne.symm e)]
theorem aEr {H:(Nat->Bool)->Nat->Option bo} {P:Program} [KP P] {T:eh} {ops:Array Oper} {ds:List DS} {L0:SL} {g0:Gh} {st0:St} {w0:World} {df:List Deferred} {ro:Option Nat} {N:Nat} {nt:NT} {L':SL} {aA:St} (R:Dv P T ops ds L0 st0 L' aA) {Q:Exit->Act->World->Prop}
 (hstep:∀ (D:Nat->Bool) (a:Act) (w:World) (i:Nat) (d:DS) (K:Act->World->Prop),ds[i]? = some d->D i=false->(∀ e ∈ d.o.after,Region.binds .any e=true->D e.on=true)->At H ops ds L0 g0 st0 w0 df nt (ow ds st0.nx ds.length) D a w->(∀ a' w',At H ops ds L0 g0 st0 w0 df nt (ow ds st0.nx ds.length) (wt D i) a' w'->K a' w')->wpOpIn (ft ro) N P ops Q i K a w) (hQ:∀ D a w,(∀ i,i<ds.length->D i=true)->At H ops ds L0 g0 st0 w0 df nt (ow ds st0.nx ds.length) D a w->Q .normal a w) :
 ∀ (fuel:Nat) (listed:Array Bool) (a:Act) (w:World),listed.size=ops.size->left (fun k=>listed.getD k false) ops.size<=fuel->At H ops ds L0 g0 st0 w0 df nt (ow ds st0.nx ds.length) (fun k=>listed.getD k false) a w ->
  wpAnyIn (ft ro) N P .any ops Q fuel listed a w:=by
 have flip:∀ (listed:Array Bool) (i:Nat),i<listed.size->listed.getD i true=listed.getD i false:=by intro listed i hi;simp [hi]
 intro fuel
 induction fuel with
 |zero=>
  intro listed a w hsz hl A;have hall:=aax ops.size (Nat.le_zero.1 hl);refine ⟨?_,hQ _ a w (fun i hi=>hall i (by rw [<- R.len];exact hi)) A⟩;cases hr:Region.ready .any ops listed with
  |nil=>rfl
  |cons i r=>
   have:i ∈ Region.ready .any ops listed:=by rw [hr];simp
   rw [mem_ready] at this;obtain ⟨h0,o,ho,_⟩:=this;have hlt:i<ops.size:=(zz1.1 ho).1;rw [flip listed i zO] at h0;have:=hall i hlt;rw [h0] at this;cases this
 |succ fuel ih=>
  intro listed a w hsz hl A;refine ⟨fun hnil=>?_,fun i hi=>?_⟩
  ·refine hQ _ a w (fun i hi=>?_) A;cases yB:listed.getD i false with
   |true=>rfl
   |false=>
    exfalso;obtain ⟨k,h1,h2,h3⟩:=Ut (D:=fun k=>listed.getD k false) ops.size ⟨i,by rw [<- R.len];exact hi,yB⟩;have hk:k ∈ Region.ready .any ops listed:=by rw [mem_ready];refine ⟨by rw [flip listed k zO];exact h2,ops[k],by simp [h1],fun e he hb=>h3 _ (R.aFv k ops[k] (by simp [h1]) e he hb)⟩
    rw [hnil] at hk;cases hk
  ·rw [mem_ready] at hi;obtain ⟨h0,o,ho,hall⟩:=hi;have hlt:i<ops.size:=(zz1.1 ho).1;rw [flip listed i zO] at h0;obtain ⟨d,hd⟩:=R.has hlt;have iU:=R.get hd;rw [ho] at iU;obtain rfl:o=d.o:=Option.some.inj iU;refine hstep _ a w i d _ hd h0 hall A (fun a' w' A'=>?_);have hu:=ax8 (listed:=listed) (i:=i) zO;refine ih _ a' w' (by simp [hsz]) ?_ (by rw [hu];exact A');rw [hu];have:=aeq (D:=fun k=>listed.getD k false) (i:=i) h0 ops.size;rw [if_pos hlt] at this;omega
theorem amy (D:Nat->Bool):∀ m,left D m<=m
 |0=>by simp [left]
 |m+1=>by
  have:=amy D m;rw [left];cases D m
  ·rw [cond_false];omega
  ·rw [cond_true];omega
theorem aby {ds:List DS} {h0:Tr bo} {o:Nat}:∀ m,ma ds h0 (fun _=>false) m o=h0.get o
 |0=>rfl
 |m+1=>by rw [ma];cases ds[m]? <;> simp [aby m]
theorem aap {ds:List DS} {L0:SL} {t:Nat}:∀ m,mc ds L0 (fun _=>false) m t=lk L0 t
 |0=>rfl
 |m+1=>by rw [mc];cases ds[m]? <;> simp [aap m]
theorem ai7 {ds:List DS} {h0:Tr bo} {D:Nat->Bool} {o:Nat}:∀ m,(∀ i,i<m->D i=true)->ma ds h0 D m o=ma ds h0 (fun _=>true) m o
 |0,_=>rfl
 |m+1,h=>by rw [ma,ma];simp only [h m zO,ai7 m (fun i hi=>h i zO)]
theorem aid {ds:List DS} {L0:SL} {D:Nat->Bool} {t:Nat}:∀ m,(∀ i,i<m->D i=true)->mc ds L0 D m t=mc ds L0 (fun _=>true) m t
 |0,_=>rfl
 |m+1,h=>by rw [mc,mc];simp only [h m zO,aid m (fun i hi=>h i zO)]
theorem Marks.congr {D:List Deferred} {n0:Nat} {h h':Tr bo} {g:Gh} {w:World} {ds:List Deferred} (hm:Marks D n0 h g w ds) (he:∀ o,h.get o=h'.get o):Marks D n0 h' g w ds:=by obtain ⟨bs,h1,h2,h3⟩:=hm;exact ⟨bs,h1,h2,fun b hb=>⟨(h3 b hb).1,(h3 b hb).2.1,fun o base ho=>(h3 b hb).2.2 o base (by rw [he];exact ho)⟩⟩
theorem ag9 {P:Program} [KP P] {T:eh} (hT:Po P T) (hm:P.follows .mixedOrders=true) {ops:Array Oper} {ro:Option Nat} {N:Nat} {B:fh} {nt:NT} {id:Nat} {Q:Exit->Act->World->Prop} {K:SL->St->Prop} (hg:rj nt ops=true) (fL:xc nt ops=true)
 {L:SL} {st:St} {g:Gh} {w:World} {a:Act} (iN:∀ L' aA,K L' aA->B.apf st.nx aA.nx) (hK:∀ L st g w a',K L st->j8 B g st w->i6 g w nt L a'.tmps->Marks B.D B.n0 st.h g w a'.defers->a'.defers=a.defers->Q .normal a' w) (h:F2 P T ops true K L st) (hc:j8 B g st w) (hr:i6 g w nt L a.tmps) (hd:Marks B.D B.n0 st.h g w a.defers) :
 (Code.region id ops true).wpIn (ft ro) N P Q a w:=by
 obtain ⟨hs,h⟩:=h;obtain ⟨ds,L',aA,e1,e2,e3,e4,e5⟩:=axs _ _ _ _ (h.elim (air _ _ _ _) fun h=>h);obtain ⟨c1,c2,c3,c4⟩:=awp (fun d hd=>(e2 d hd).toDSRun) e3;unfold Nv at hs;rw [zzh] at hs;have R:Dv P T ops ds L st L' aA:=by
  refine ⟨e1,fun d hd=>(e2 d hd).toDSRun,c1,⟨c2,c3,c4⟩,fun i k x y t hik hx hy ht xO=>?_,fun i o ho e he hb=>?_⟩
  ·have pP:(x.o,i) ∈ ops.toList.zipIdx:=by
    rw [List.mem_zipIdx_iff_getElem?,<- e1];simp [hx]
   have vX:(y.o,k) ∈ ops.toList.zipIdx:=by rw [List.mem_zipIdx_iff_getElem?,<- e1];simp [hy]
   have h1:=zz8.1 hs.1 _ pP;have h2:=zz8.1 h1 t ht;have h3:=zz8.1 h2 _ vX;simp only [xO,Bool.or_eq_true] at h3;rcases h3 with (h3|h3)|h3
   ·simp at h3
   ·simp at h3;omega
   ·rw [Nat.max_comm,Nat.min_comm];exact h3
  ·have hoi:(o,i) ∈ ops.toList.zipIdx:=by rw [List.mem_zipIdx_iff_getElem?];simpa using ho
   have h1:=zz8.1 hs.2 _ hoi;rw [Array.all_eq_true_iff_forall_mem] at h1;have:=h1 e he;rw [hb] at this;simpa using this
 have C:Calm ops ds:=fun i k x y hik hx hy=>by
  have:=Sf _ 0 e4 i k ⟨x.R,x.W⟩ ⟨y.R,y.W⟩ hik (by simp [hx]) (by simp [hy]);simp only [Kq,Nat.zero_add,Bool.or_eq_true,zzh] at this;rcases this with h1|h1
  ·exact .inr ⟨h1.1.1,h1.1.2,h1.2⟩
  ·exact .inl h1
 have hc1:=hc.drawn;have aW:Marks B.D B.n0 st.h g { w with drawn:=w.drawn+1 } a.defers:=hd;have bE:∀ i d,ds[i]? = some d->d.st.nx=ow ds st.nx i/\d.st.nx<=d.gi.nx:=fun i d hd=>⟨(c1 i d hd).2.2.1,(c1 i d hd).2.2.2⟩
 refine wpIn_region_any hm (aEr (H:=fun D o=>ma ds st.h D ds.length o) (L0:=L) (g0:=g) (st0:=st) (w0:={ w with drawn:=w.drawn+1 }) (df:=a.defers) R (fun D a w i d K hi hD hr A hK=>At.step hT R hg fL hi (e2 d (zm hi)).g (adz R C hi hD A.closed hr).1 (adz R C hi hD A.closed hr).2 hD hr A hK) ?_ ops.size _ a _ (by simp) ?_ ?_)
 ·intro D a' w' hall A;obtain ⟨g',h',q1,q2,q3,q4,q5⟩:=A.mem;have hh:∀ o,h'.get o=aA.h.get o:=fun o=>by rw [q1 o,ai7 _ hall,c3 o]
  have hle:st.nx<=aA.nx:=by rw [c4];exact ss bE ds.length 0 (zzb _)
  refine hK L' aA g' w' a' e5 (hc1.step (iN _ _ e5) ⟨hle,?_⟩ (q2.congr hh)) ⟨A.size,fun t=>?_⟩ (by rw [A.defers];exact Marks.congr (Marks.step q3 aW) hh) A.defers
  ·rw [c4];exact q3.congr hh
  ·rw [c2 t,<- aid _ hall];exact q4 t
 ·exact amy _ _
 ·have hf:(fun k=>(Array.replicate ops.size false).getD k false)=fun _=>false:=by
   funext k
   simp only [zze,Array.getElem?_replicate]
   split<;>rfl
  rw [hf];exact ⟨⟨g,st.h,fun o=>(aby _).symm,hc1.ok,.refl _ _ _ _ _,fun t=>by
   rw [aap];exact (hr.2 t).ext (Ext.same (w:=w) (w':={ w with drawn:=w.drawn+1 }) rfl),fun i d hd _ o h1 h9=>hc.fresh o (by
   have:=ss bE i 0 (zzb _);rw [(c1 i d hd).2.2.1] at h1;exact zzu this h1) (iN _ _ e5 o (by
   have:=ss bE i 0 (zzb _);rw [(c1 i d hd).2.2.1] at h1;exact zzu this h1) (by
   rw [c4];have h10:=ss bE ds.length (i+1) (zg.1 hd).1;rw [ow.eq_2,hd] at h10;exact zyc h9 h10))⟩,hr.1,rfl,fun i k hik=>by cases hik⟩
theorem vq {P:Program} [KP P] {b:Frame} {a:Act} {k:List Item} {cs:List Frame} {w:World} {c:Code}:step P (lone (b.atR a (.code (.scope c)::k)) cs w) = .next (lone (b.atR a (.code c :: .inScope c::k)) cs w):=
 step_lone_go (by simp [stepG,stepG.exec,Frame.atR])
theorem adf {P:Program} [KP P] {b:Frame} {a:Act} {k:List Item} {cs:List Frame} {w:World} {c:Code}:step P (lone (b.atR a (.inScope c::k)) cs w) = .next (lone (b.atR a k) cs w):=
 step_lone_go (by simp [stepG,stepG.exec,Frame.atR])
theorem My {F:Fence} {n:Nat} {P:Program} [KP P] {Q:Exit->Act->World->Prop} {a:Act} {w:World} {c:Code} (h:c.wpIn F n P (Exit.noGoto Q) a w):(Code.scope c).wpIn F n P Q a w:=by
 intro b k cs hro hb hr;obtain ⟨e,a₁,w₁,hq,harr⟩:=h b (.inScope c::k) cs hro hb hr;have h0:=fenced_calm (P:=P) (F:=F) (fr:=b.atR a (.code (.scope c)::k)) (cs:=cs) (w:=w) (n:=n) hb hr rfl;cases e with
 |normal=>exact ⟨.normal,a₁,w₁,hq,.head h0 vq (StepsIn.trans harr (.one (fenced_calm (fr:=b.atR a₁ (.inScope c::k)) hb hr rfl) adf))⟩
 |exit id=>
  have hx:exitTo id (.inScope c::k)=exitTo id k:=by simp [exitTo]
  exact ⟨.exit id,a₁,w₁,hq,fun k' hk=>.head h0 vq (harr.1 k' (by rw [hx];exact hk)),
   fun hr' hk=>let ⟨k₁,h1,h2⟩:=harr.2 hr' (by rw [hx];exact hk);⟨k₁,h1,.head h0 vq h2⟩⟩
 |goto l=>exact hq.elim
 |ret=>exact ⟨_,a₁,w₁,hq,.of_steps (.one h0 vq) harr⟩
 |panic ch=>exact ⟨_,a₁,w₁,hq,.of_steps (.one h0 vq) harr⟩
 |outgrown=>exact ⟨_,a₁,w₁,hq,.of_steps (.one h0 vq) harr⟩
theorem atx {P:Program} [KP P] {T:eh} (hT:ar P T) (hm:P.follows .mixedOrders=true) {ro:Option Nat} {N:Nat} {B:fh} {nt:NT} (aH:B.ll) (hp:B.bb<=1000) (rf:Bool)
 (wJ:rf=true->∀ f ps cK body,ec nt (.rangeFunc f ps cK body)=true->T6 P ro N B nt (.rangeFunc f ps cK body) (wl P T B.bb (.rangeFunc f ps cK body))) :
 ∀ c:Code,ec nt c=true->(rf=true\/c.ud=true)->T6 P ro N B nt c (wl P T B.bb c):=by
 intro c;have both:∀ {x y:Bool},(rf=true\/(x && y)=true)->(rf=true\/x=true)/\(rf=true\/y=true):=by
  intro x y h;rcases h with h|h
  ·exact ⟨.inl h,.inl h⟩
  ·rw [zzh] at h;exact ⟨.inr h.1,.inr h.2⟩
 induction c with
 |skip=>intro _ _ Q L st g w a h hc hr hd;exact wpIn_skip (Fin.mk' (e:=.normal) h hc hr hd)
 |label l=>intro _ _ Q L st g w a h hc hr hd;exact wpIn_label (Fin.mk' (e:=.normal) h hc hr hd)
 |exit id=>intro _ _ Q L st g w a h hc hr hd;exact wpIn_exit (Fin.mk' (e:=.exit id) h hc hr hd)
 |ret=>intro _ _ Q L st g w a h hc hr hd;exact wpIn_ret (Fin.mk' (e:=.ret) h hc hr hd)
 |region id ops draw=>
  intro hs hpl Q L st g w a h hc hr hd;simp only [ec,zzh] at hs;cases draw with
  |false=>
   refine wpIn_region (anq hT aH hs.2 hs.1 (fun L st g w a h hc hr hd=>Fin.mk' (e:=.normal) h hc hr hd) ops.toList _ (by simp) (H2 ops) L st g w a h hc hr hd)
  |true=>exact ag9 hT.toF hm hs.2 hs.1 (fun _ _ _=>aH.Di _ _) (fun L st g w a h hc hr hd _=>Fin.mk' (e:=.normal) h hc hr hd) h hc hr hd
 |seq x y jH jG=>
  intro hs hpl Q L st g w a h hc hr hd;simp only [ec,zzh] at hs;refine wpIn_seq (wpIn_mono (jH hs.1 (both hpl).1 _ L st g w a h hc hr hd) ?_);rintro ex a' w' ⟨e,L',aA,g',rfl,hq,hc',hr',aW⟩;cases e with
  |normal=>exact jG hs.2 (both hpl).2 Q L' aA g' w' a' hq hc' hr' aW
  |exit id=>exact ⟨.exit id,L',aA,g',rfl,hq,hc',hr',aW⟩
  |ret=>exact ⟨.ret,L',aA,g',rfl,hq,hc',hr',aW⟩
 |cond c x y jH jG=>
  intro hs hpl Q L st g w a h hc hr hd;simp only [ec,zzh] at hs;obtain ⟨v,hv,h1,h2⟩:=Ri h;have hev:=Wp (hr.eval c) hv;cases v with
  |true=>exact wpIn_cond_true hev (jH hs.1 (both hpl).1 Q L st g w a (h1 rfl) hc hr hd)
  |false=>exact wpIn_cond_false hev (jG hs.2 (both hpl).2 Q L st g w a (h2 rfl) hc hr hd)
 |block id x ih=>
  intro hs hpl Q L st g w a h hc hr hd;refine wpIn_block (wpIn_mono (ih hs hpl _ L st g w a h hc hr hd) ?_);rintro ex a' w' ⟨e,L',aA,g',rfl,hq,hc',hr',aW⟩;cases e with
  |normal=>exact ⟨.normal,L',aA,g',rfl,hq,hc',hr',aW⟩
  |ret=>exact ⟨.ret,L',aA,g',rfl,hq,hc',hr',aW⟩
  |exit j=>
   simp only [Li] at hq;by_cases e:j=id
   ·subst e;simp only [Nat.beq_refl,cond_true] at hq;simp only [sm,Exit.inBlock,if_true];exact ⟨.normal,L',aA,g',rfl,hq,hc',hr',aW⟩
   ·rw [qg e,cond_false] at hq;simp only [sm,Exit.inBlock,if_neg e];exact ⟨.exit j,L',aA,g',rfl,hq,hc',hr',aW⟩
 |loop x ih=>
  intro hs hpl Q L st g w a h hc hr hd;exact aB5 aH hp (ih hs hpl) Q L st g w a h hc hr hd
 |scope x ih=>
  intro hs hpl Q L st g w a h hc hr hd;refine My (wpIn_mono (ih hs hpl Q L st g w a h hc hr hd) ?_);rintro ex a' w' ⟨e,L',aA,g',rfl,hq,hc',hr',aW⟩;cases e<;>exact ⟨_,L',aA,g',rfl,hq,hc',hr',aW⟩
 |rangeFunc f ps cK body=>
  intro hs hpl;rcases hpl with hpl|hpl
  ·exact wJ hpl f ps cK body hs
  ·cases hpl
 |goto l=>intro _ _ Q L st g w a h;exact h.elim
 |refuse why=>intro _ _ Q L st g w a h;exact h.elim
theorem af8 {P:Program} [KP P] {T:eh} (hT:ar P T) (hm:P.follows .mixedOrders=true) {ro:Option Nat} {N:Nat} {B:fh} {nt:NT} (aH:B.ll) (hp:B.bb<=1000) (c:Code) (hs:ec nt c=true) (hpl:c.ud=true):T6 P ro N B nt c (wl P T B.bb c):=
 atx hT hm aH hp false (fun h=>by cases h) c hs (.inr hpl)
def kx (g:Gh) (h:Tr bo) (w:World) (p:Nat) (x:Nat->Prop) (far:Nat->Prop:=fun _=>False):fh:=
 { b0:=g.b0,w,K:=g.K,O:=fun b=>x b\/∃ o base,(h.get o).isSome=true/\g.inj o=some (b,base),bb:=p,pb:=g.inj,n0:=0,far:=far }
theorem j8.Rk {B g st w} (h:j8 B g st w) (p:Nat) (x:Nat->Prop) (hp:p<=st.nx) {far:Nat->Prop} (hf:∀ o,B.far o->far o):j8 (kx g st.h w p x far) g st w:=
 ⟨h.ok,fun o h1 h2=>h.fresh o h1 (fun h3=>h2 (hf o h3)),⟨rfl,fun _o zr=>rfl,fun _ _ h=>h,fun _ _ _=>rfl,zza _,rfl,rfl,rfl,fun _ _ _=>rfl,fun o _b base ho hi=>.inr (.inr ⟨o,base,ho,hi⟩),fun _ _ h=>.inl h,
  fun _b cs _e fr h=>⟨cs,fr,h,rfl⟩,fun _b l h=>⟨l,h⟩,fun _ _ _ _ _ _=>rfl⟩,hp⟩
theorem tp.comp {B g h w p x far g' h' w'} (b:tp B g h w) (c:tp (kx g h w p x far) g' h' w') (hp:B.bb<=p) (hf:∀ o,B.far o->far o) (hx:∀ n,x n->B.w.heap.size<=n\/B.O n):tp B g' h' w':=by
 have hO:∀ n,(kx g h w p x far).O n->B.w.heap.size<=n\/B.O n:=by
  rintro n (hn|⟨o,base,h1,h2⟩)
  ·exact hx n hn
  ·exact b.own o n base h1 h2
 refine ⟨c.b0.trans b.b0,fun o ho=>?_,fun i j hk=>c.K i j (b.K i j hk),fun i j hk=>(c.cell i j (b.K i j hk)).trans (b.cell i j hk),zzu b.size c.size,c.os.trans b.os,c.tape.trans b.tape,c.output.trans b.output,fun n hn oK=>?_,fun o n base ho hi=>?_,fun n j hk=>?_,fun n cs e fr hn=>?_,fun n l hn=>?_,fun n cs e fr hn hK=>(c.whole n cs e fr ((b.whole n cs e fr hn hK).trans hn) (fun j=>b.K n j (hK j))).trans (b.whole n cs e fr hn hK)⟩
 ·have h1:=c.pins o (ho.imp (fun h=>zyc h hp) (hf o));exact Eq.trans h1 (b.pins o ho)
 ·refine (c.frame n (zyc hn b.size) (fun yA=>?_)).trans (b.frame n hn oK);rcases hO n yA with h1|h1
  ·omega
  ·exact oK h1
 ·rcases c.own o n base ho hi with h1|h1
  ·exact .inl (zzu b.size h1)
  ·exact hO n h1
 ·rcases c.n8 n j hk with h1|h1|h1
  ·exact b.n8 n j h1
  ·exact .inr (.inl (zzu b.size h1))
  ·exact .inr (hO n h1)
 ·obtain ⟨cs1,gV,h1,h2⟩:=b.sv n cs e fr hn;obtain ⟨jE,pB,h3,h4⟩:=c.sv n cs1 e gV h1;exact ⟨jE,pB,h3,h4.trans h2⟩
 ·obtain ⟨l1,h1⟩:=b.lp n l hn;exact c.lp n l1 h1
theorem tp.ahd {g h w p x far g' h' w'} (c:tp (kx g h w p x far) g' h' w') (hn:∀ o,p<=o->¬ far o->g.inj o=none):Ext g w g' w':=
 ⟨c.b0,(fun o q hq=>by
  by_cases ho:o<p\/far o
  ·exact (c.pins o ho).trans hq
  ·rw [hn o zO (fun h=>ho (.inr h))] at hq;cases hq),c.K,c.cell,c.sv,c.lp,c.whole⟩
theorem tp.aFy {g h w p x y far g' h' w'} (c:tp (kx g h w p x far) g' h' w') (vY:∀ n,x n->y n):tp (kx g h w p y far) g' h' w':=by
 have hO:∀ n,(kx g h w p x far).O n->(kx g h w p y far).O n:=fun n hn=>hn.imp (vY n) id
 exact ⟨c.b0,c.pins,c.K,c.cell,c.size,c.os,c.tape,c.output,fun n hn oK=>c.frame n hn (fun h=>oK (hO n h)),fun o n base ho hi=>(c.own o n base ho hi).imp id (hO n),fun n j hk=>(c.n8 n j hk).imp id (·.imp id (hO n)),c.sv,c.lp,c.whole⟩
theorem tp.Qj {g h w p x far g' h' w' b} (c:tp (kx g h w p x far) g' h' w') (hb:b<w.heap.size) (hu:i5 g h b) (hx:¬ x b):i5 g' h' b/\w'.heap[b]? = w.heap[b]? := by
 have hO:¬ (kx g h w p x far).O b:=by
  rintro (h1|⟨o,base,h1,h2⟩)
  ·exact hx h1
  ·exact hu o base h1 h2
 refine ⟨fun o base ho hi=>?_,c.frame b hb hO⟩;rcases c.own o b base ho hi with h1|h1
 ·have:w.heap.size<=b:=h1;omega
 ·exact hO h1
theorem Marks.base {D g h w p x far g' h' w' n0 ds} (c:tp (kx g h w p x far) g' h' w') (hm:Marks D n0 h g w ds) (hx:∀ b,x b->∃ l,w.heap[b]? = some (.loop l)):Marks D n0 h' g' w' ds:=by obtain ⟨bs,h1,h2,h3⟩:=hm;refine ⟨bs,h1,h2,fun b hb=>?_⟩;obtain ⟨q1,q2,q3⟩:=h3 b hb;have:=c.Qj (bu q2) q3 (fun hxb=>by obtain ⟨l,hl⟩:=hx b hxb;rw [q2] at hl;cases hl);exact ⟨q1,this.2.trans q2,this.1⟩
theorem av3 {g h w w'} (lo hi:Nat) (aB:Ok g h w) (hsz:w.heap.size<=w'.heap.size) (hh:∀ b,b<w.heap.size->w'.heap[b]? = w.heap[b]?) (h1:w'.os=w.os) (h2:w'.tape=w.tape) (h3:w'.output=w.output) :
 Step g h w lo hi g h w'/\Ok g h w':=by
 have aG:Ext g w g w':=⟨rfl,fun _ _ h=>h,fun _ _ h=>h,fun b j hj=>o8 (hh b (aB.K b j hj)),fun b cs e fr hb=>⟨cs,fr,(hh b (bu hb)).trans hb,rfl⟩,fun b l hb=>⟨l,(hh b (bu hb)).trans hb⟩,fun b cs e fr hb _=>hh b (bu hb)⟩;refine ⟨⟨aG,hsz,h1,h2,h3,fun b hb _=>hh b hb,fun _ h _=>h,fun o b base ho hi=>.inr ⟨o,base,ho,hi⟩,fun b j hk=>.inl hk⟩,⟨zzu aB.size hsz,fun o x hx=>?_,aB.sep,fun b j hk=>zyc (aB.K b j hk) hsz⟩⟩;refine (aB.mn o x hx).imp id ?_;rintro ⟨b,base,p1,p2,p3⟩;exact ⟨b,base,p1,p2,p3.ext aG (hh b p3.lt) (fun _ hk=>hk)⟩
theorem z6 {B g st w l r r'} (hc:j8 B g st w) (hl:w.heap[l]? = some (.loop r)) (hu:i5 g st.h l) (hO:B.O l):j8 B g st (g7 w l (.loop r'))/\Ext g w g (g7 w l (.loop r')):=by
 have hne:∀ {c:Nat} {o:Obj},w.heap[c]? = some o->(∀ r,o ≠ .loop r)->c≠l:=fun hc ho e=>by subst e;rw [hl] at hc;cases hc;exact ho r rfl
 have hcell:∀ c j,(g7 w l (.loop r')).cell? ⟨c,j,none⟩=w.cell? ⟨c,j,none⟩:=fun c j=>by
  by_cases e:c=l
  ·subst e;simp [World.cell?,ir _ (bu hl),hl]
  ·exact o8 (ey w _ e)
 have aG:Ext g w g (g7 w l (.loop r')):=by
  refine ⟨rfl,fun _ _ h=>h,fun _ _ h=>h,fun c j _=>hcell c j,fun c cs e fr h=>?_,fun c q h=>?_,fun c cs e fr h _=>ey w _ (hne h (fun r e=>by cases e))⟩
  ·exact ⟨cs,fr,(ey w _ (hne h (fun r e=>by cases e))).trans h,rfl⟩
  ·by_cases e:c=l
   ·subst e;exact ⟨r',ir _ (bu hl)⟩
   ·exact ⟨q,(ey w _ e).trans h⟩
 refine ⟨⟨⟨by rw [lf];exact hc.ok.size,fun o x hx=>?_,hc.ok.sep,fun c j hk=>by rw [lf];exact hc.ok.K c j hk⟩,hc.fresh,?_,hc.bb⟩,aG⟩
 ·refine (hc.ok.mn o x hx).imp id ?_;rintro ⟨c,base,h1,h2,h3⟩;exact ⟨c,base,h1,h2,h3.ext aG (ey w _ (fun e=>hu o base (by rw [hx];rfl) (by rw [<- e];exact h1))) (fun _ h=>h)⟩
 ·have b:=hc.base;refine ⟨b.b0,b.pins,b.K,fun c j hk=>(hcell c j).trans (b.cell c j hk),by rw [lf];exact b.size,b.os,b.tape,b.output,fun c hc' tT=>?_,b.own,b.n8,fun c cs e fr h=>?_,fun c q h=>?_,fun c cs e fr h hK=>(ey w _ (hne ((b.whole c cs e fr h hK).trans h) (fun r e=>by cases e))).trans (b.whole c cs e fr h hK)⟩
  ·exact (ey w _ (fun e=>tT (by rw [e];exact hO))).trans (b.frame c hc' tT)
  ·obtain ⟨cs1,gV,h1,h2⟩:=b.sv c cs e fr h;exact ⟨cs1,gV,(ey w _ (hne h1 (fun r e=>by cases e))).trans h1,h2⟩
  ·obtain ⟨q1,h1⟩:=b.lp c q h;exact aG.lp c q1 h1
theorem Marks.z6 {D n0 h g w ds l r r'} (hm:Marks D n0 h g w ds) (hl:w.heap[l]? = some (.loop r)):Marks D n0 h g (g7 w l (.loop r')) ds:=by obtain ⟨bs,h1,h2,h3⟩:=hm;refine ⟨bs,h1,h2,fun b hb=>⟨(h3 b hb).1,(ey w _ (fun e=>?_)).trans (h3 b hb).2.1,(h3 b hb).2.2⟩⟩;have:=(h3 b hb).2.1;rw [e,hl] at this;cases this
theorem avq (h:Tr bo):∀ (n:Nat) (todo acc:List Nat) (o:Nat),o ∈ reach h n todo acc->o ∈ acc\/(h.get o).isSome=true:=by
 intro n
 induction n with
 |zero=>intro todo acc o ho;exact .inl ho
 |succ n ih=>
  intro todo acc o ho;cases todo with
  |nil=>exact .inl ho
  |cons a r=>
   simp only [reach] at ho;cases hc:acc.contains a with
   |true=>rw [hc] at ho;exact ih r acc o ho
   |false=>
    rw [hc,cond_false] at ho;cases ha:h.get a with
    |none=>rw [ha] at ho;exact ih r acc o ho
    |some x=>
     rw [ha] at ho;rcases ih _ _ o ho with h1|h1
     ·rcases zzq.1 h1 with h2|h2
      ·exact .inl h2
      ·simp at h2;subst h2;exact .inr (by rw [ha];rfl)
     ·exact .inr h1
theorem S4 {B:fh} {g:Gh} {st:St} {w:World} (BJ:j8 B g st w) (keep:List Nat) (L:SL) :
 B.bb<=(fl B.bb keep L st).length/\(fl B.bb keep L st).length<=(bh (fl B.bb keep L st)).nx/\(∀ i,(fl B.bb keep L st).length<=i->(g.da (ik B.bb keep L st)).inj i=none):=by
 have hN:=Ac st.h fj (AV.names.go (keep.map (lk L))++oo st.h (dz 0 B.bb)) (dz 0 B.bb) (ri _ _);have hm:=avq st.h fj (AV.names.go (keep.map (lk L))++oo st.h (dz 0 B.bb)) (dz 0 B.bb);change (ik B.bb keep L st).Nodup/\(∃ r,ik B.bb keep L st=dz 0 B.bb++r)/\(ik B.bb keep L st).length<=_ at hN;change ∀ o,o ∈ ik B.bb keep L st->_ at hm;unfold fl;rw [iq];generalize ik B.bb keep L st=N at hN hm;obtain ⟨_,⟨rest,hpre⟩,_⟩:=hN;refine ⟨by rw [hpre,za,js];omega,by simp [bh,iq],fun i hi=>by simp [Gh.da,zzy hi]⟩
theorem E6 {B:fh} {g:Gh} {st:St} {L:SL} {b:Nat} (hp:B.bb<=1000) (keep:List Nat) (hu:i5 g st.h b):i5 (g.da (ik B.bb keep L st)) (bh (fl B.bb keep L st)).h b:=by
 have hN:=Ac st.h fj (AV.names.go (keep.map (lk L))++oo st.h (dz 0 B.bb)) (dz 0 B.bb) (ri _ _);change (ik B.bb keep L st).Nodup/\(∃ r,ik B.bb keep L st=dz 0 B.bb++r)/\(ik B.bb keep L st).length<=_ at hN;unfold fl;generalize ik B.bb keep L st=N at hN;obtain ⟨bR,⟨rest,hpre⟩,hlen⟩:=hN;rw [js] at hlen;have aD:N.length<=c9:=by simp only [fj,c9] at *;omega
 intro i base hi hj;obtain ⟨x,hx⟩:=zzv.1 hi;simp only [bh] at hx;rw [uk _ _ _ (by rw [iq];omega),if_pos (zzb _),Nat.sub_zero,uz] at hx;cases hi':N[i]? with
 |none=>rw [hi'] at hx;cases hx
 |some o=>
  rw [hi'] at hx;simp only [Option.map_some,Option.join_some] at hx;cases hy:st.h.get o with
  |none=>rw [hy] at hx;cases hx
  |some y=>
   have:(g.da N).inj i=g.inj o:=by simp [Gh.da,hi']
   rw [this] at hj;exact hu o base (by rw [hy];rfl) hj
def at2:Ex->Code
 |.ret=>.ret
 |.exit id=>.exit id
 |.normal=>.skip
def Ub:Ex->Bool
 |.normal=>true
 |_=>false
structure vv where
 fn:FuncId
 tmps:Array Value
 params:Array Tmp
 assign:Code
 body:Code
 defers:Nat
def vv.at (r:vv) (pe:Option Ex):Loop:={ state:=match pe with|none=>.ready|some _=>.done,pending:=pe.map at2,fn:=r.fn,tmps:=r.tmps,params:=r.params,assign:=r.assign,body:=r.body,defers:=r.defers }
def aBq (e:Ex):Option Ex:=
 match e with
 |.normal=>none
 |e=>some e
def Kt (B:fh) (nt:NT) (l:Nat) (rec:vv) (Q:QI):Exit->Act->World->Prop:=fun ex a w=>
 ∃ e pe L st g,ex=sm e/\Q e pe L st/\j8 B g st w/\i6 g w nt L a.tmps/\a.defers=[]/\w.heap[l]? = some (.loop (rec.at pe))/\i5 g st.h l
theorem Kt.mk' {B nt l rec} {Q:QI} {e pe L st g} {a:Act} {w:World} (hq:Q e pe L st) (hc:j8 B g st w) (hr:i6 g w nt L a.tmps) (hd:a.defers=[]) (hl:w.heap[l]? = some (.loop (rec.at pe))) (hu:i5 g st.h l) :
 Kt B nt l rec Q (sm e) a w:=⟨e,pe,L,st,g,rfl,hq,hc,hr,hd,hl,hu⟩
def adp (P:Program) (l:Nat) (rec:vv) (R:Ju) (B1:fh):Prop:=
 ∀ (N p:Nat) (args:List AV) (X:Ex->St->Prop) (g:Gh) (st:St) (w:World) (vs:List Value),j8 B1 g st w->B1.bb<=p->p<=st.nx->(∀ o,p<=o->g.inj o=none)->bt g w args vs ->
  w.heap[l]? = some (.loop (rec.at none))->i5 g st.h l->R p args X st ->
  ∃ f tmps cK body,(Instr.yield l vs.toArray).run P w = .ok (.round l f tmps cK body) w/\RoundIn (ft none) N P l f tmps cK body w (fun e w'=>∃ ex aA g',X ex aA/\e = .returned (.bool (Ub ex))/\j8 (kx g st.h w p (· = l)) g' aA w' /\
   w'.heap[l]? = some (.loop (rec.at (aBq ex)))/\i5 g' aA.h l)
theorem aic {l:Nat} {a:AV} {g w v} (h:Dk l a=true) (hr:Rel g w a v):v = .func (.yield l) #[] #[]:=by
 unfold Dk at h
 split at h
 ·rename_i x
  split at h
  ·rename_i f va vb
   split at h
   ·rename_i k;simp only [zzh] at h;have:=hr.exact rfl;subst this;obtain ⟨⟨h1,h2⟩,h3⟩:=h;have h1:=zzg h1;have h2:va = #[]:=Array.eq_empty_of_size_eq_zero (zzg h2);have h3:vb = #[]:=Array.eq_empty_of_size_eq_zero (zzg h3);rw [h1,h2,h3]
   ·cases h
  ·cases h
 ·cases h
theorem auz {P:Program} [KP P] {o:Oper} {f:Operand} {args:Array Operand} {ts:Array TypeId} {ρ:Operand->Value} {l:Nat} (ho:o.op = .call { callee:=.value f,args,argTypes:=ts })
 (hf : ρ f = .func (.yield l) #[] #[]) (w:World):(execOp ρ o).run P w=(Instr.yield l (args.map ρ)).run P w:=by
 simp [execOp,ho,resolve,hf,Deferred.ofValue,invoke]
theorem aBd {P:Program} [KP P] {T:eh} (hT:ar P T) {ops:Array Oper} {N:Nat} {B:fh} {nt:NT} {l:Nat} {rec:vv} {R:Ju} (aH:B.ll) (hp:B.bb<=1000) (hR:adp P l rec R B) (hO:B.O l) {Q:Exit->Act->World->Prop} {K:Option Ex->SL->St->Prop} (hg:rj nt ops=true) (hd:xc nt ops=true)
 (hK:∀ pe L st g w a,K pe L st->j8 B g st w->i6 g w nt L a.tmps->a.defers=[]->w.heap[l]? = some (.loop (rec.at pe))->i5 g st.h l->Q .normal a w) :
 ∀ (ls:List Oper) (is:List Nat),(∀ o ∈ ls,o ∈ ops)->is.map (fun i=>ops[i]?)=ls.map some->∀ pe L st g w a,G1 P T l R B.bb ops ls K pe L st->j8 B g st w->i6 g w nt L a.tmps->a.defers=[] ->
  w.heap[l]? = some (.loop (rec.at pe))->i5 g st.h l->wpOpsIn (ft none) N P ops Q is a w:=by
 intro ls
 induction ls with
 |nil=>
  intro is _ aQ pe L st g w a h hc hr cA hl hu;cases is with
  |nil=>exact hK pe L st g w a h hc hr cA hl hu
  |cons i is=>cases aQ
 |cons o ls ih=>
  intro is hmem aQ pe L st g w a h hc hr cA hl hu;cases is with
  |nil=>cases aQ
  |cons i is=>
   simp only [List.map_cons,List.cons.injEq] at aQ;obtain ⟨hi,aQ⟩:=aQ;have ho:=hmem o (by simp);have cR:∀ o ∈ ls,o ∈ ops:=fun o ho=>hmem o (by simp [ho])
   simp only [wpOpsIn,hi];rcases Fq hr (Ge hg ho) h with ⟨hw,h1⟩|⟨hw,h1⟩
   ·rw [hw,if_pos rfl];unfold opI Yd at h1;cases hy:yieldOf l o L with
    |none=>
     rw [hy] at h1;simp only at h1;unfold Jy at h1;cases hop:gz P T o (dw L) st with
     |none=>rw [hop] at h1;exact h1.elim
     |some q=>
      obtain ⟨v,aA⟩:=q;rw [hop] at h1;refine Kw hT hc.ok (hc.free (aH.Di _ _)) hr.eval hop none N _ _ ?_;rintro u w' ⟨g',q1,q2,q3⟩;have eJ:=i5.step q1 (bu hl) hu;exact ih is cR aQ pe _ aA g' w' _ h1 (hc.step (aH.Di _ _) ⟨Dr hop,q1⟩ q2) ((hr.ext q1.ext).put q3 (pg hd ho)) (by rw [put_defers];exact cA) (eJ.2.trans hl) eJ.1
    |some args=>
     rw [hy] at h1;obtain ⟨rfl,keep,h1⟩:=h1;have bX:∃ f ts,o.op = .call { callee:=.value f,args,argTypes:=ts }/\Dk l (dw L f)=true:=by
      unfold yieldOf at hy
      split at hy
      ·rename_i f args' ts he;cases hb:Dk l (dw L f) with
       |false=>rw [hb] at hy;cases hy
       |true=>rw [hb] at hy;cases hy;exact ⟨f,ts,he,hb⟩
      ·cases hy
     obtain ⟨f,ts,he,hb⟩:=bX;have xF:=aic hb (hr.eval f);have cc:=Ha aH hp keep hc hr;have cn:=S4 hc keep L;have cu:=E6 (L:=L) hp keep hu;unfold B5 at h1;have aL:=cc.2.eval.list args.toList;obtain ⟨fn,tmps,cK,body,hrun,jS⟩:=hR (N - 1) _ _ _ _ _ _ _ cc.1 cn.1 cn.2.1 cn.2.2 aL hl cu h1;refine ⟨lh none P o a w,?_⟩;rw [Oper.semAt_eq _ _ _ (Hs he),auz he xF,show args.map a.eval=(args.toList.map a.eval).toArray from (by apply Array.ext';simp),hrun];refine ⟨(fun h=>(by cases h)),jS.mono ?_⟩;rintro e w' ⟨ex,aA,g',hX,rfl,hc',hl',bD⟩;have aG:=hc'.base.ahd (fun o h _=>cn.2.2 o h);have hcB:j8 B g' aA w':=⟨hc'.ok,fun o h1 _=>hc'.fresh o h1 (fun h=>h),cc.1.base.comp hc'.base cn.1 (fun o h=>(aH o h).elim) (fun n hn=>by subst hn;exact .inr hO),zzu cn.1 hc'.bb⟩;have hr':=(cc.2.ext aG).put (.sc (.bool (Ub ex))) (pg hd ho);show wpOpsIn (ft none) N P ops Q is (a.put o.dst (.bool (Ub ex))) w';cases ex with
     |normal=>exact ih is cR aQ _ _ aA g' w' _ hX hcB hr' (by rw [put_defers];exact cA) hl' bD
     |ret=>exact ih is cR aQ _ _ aA g' w' _ hX hcB hr' (by rw [put_defers];exact cA) hl' bD
     |exit id=>exact ih is cR aQ _ _ aA g' w' _ hX hcB hr' (by rw [put_defers];exact cA) hl' bD
   ·rw [hw,if_neg (by simp)];refine ⟨lh none P o a w,?_⟩;exact ih is cR aQ pe _ st g w _ h1 hc (hr.put (.sc _) (pg hd ho)) (by rw [put_defers];exact cA) hl hu
theorem aEc {P:Program} [KP P] {T:eh} (hT:ar P T) (hm:P.follows .mixedOrders=true) {N:Nat} {B:fh} {nt:NT} {l:Nat} {rec:vv} {R:Ju} (aH:B.ll) (hp:B.bb<=1000) (hR:adp P l rec R B) (hO:B.O l) :
 ∀ (c:Code),ec nt c=true->∀ (Q:QI) pe L st g w a,qd P T l R B.bb c Q pe L st->j8 B g st w->i6 g w nt L a.tmps->a.defers=[]->w.heap[l]? = some (.loop (rec.at pe))->i5 g st.h l ->
  c.wpIn (ft none) N P (Kt B nt l rec Q) a w:=by
 intro c
 induction c with
 |skip=>intro _ Q pe L st g w a h hc hr hd hl hu;exact wpIn_skip (Kt.mk' (e:=.normal) h hc hr hd hl hu)
 |label k=>intro _ Q pe L st g w a h hc hr hd hl hu;exact wpIn_label (Kt.mk' (e:=.normal) h hc hr hd hl hu)
 |exit id=>intro _ Q pe L st g w a h hc hr hd hl hu;exact wpIn_exit (Kt.mk' (e:=.exit id) h hc hr hd hl hu)
 |ret=>intro _ Q pe L st g w a h hc hr hd hl hu;exact wpIn_ret (Kt.mk' (e:=.ret) h hc hr hd hl hu)
 |region id ops draw=>
  intro hs Q pe L st g w a h hc hr hd hl hu;simp only [ec,zzh] at hs;cases draw with
  |false=>exact wpIn_region (aBd hT aH hp hR hO hs.2 hs.1 (fun pe L st g w a h hc hr hd hl hu=>Kt.mk' (e:=.normal) h hc hr hd hl hu) ops.toList _ (by simp) (H2 ops) pe L st g w a h hc hr hd hl hu)
  |true=>
   have hc0:=hc.Rk B.bb (fun _=>False) hc.bb (far:=fun _=>False) (fun o h=>(aH o h).elim);refine ag9 hT.toF hm hs.2 hs.1 (fun _ _ _ _ _ _ h=>h) (fun L' aA g' w' a' h' hc' hr' _ hdd=>?_) h hc0 hr (by rw [hd];exact Marks.nil _ _ _ _);have eJ:=hc'.base.Qj (bu hl) hu (fun h=>h);exact Kt.mk' (e:=.normal) h' ⟨hc'.ok,fun o h1 _=>hc'.fresh o h1 (fun h=>h),hc.base.comp hc'.base (zza _) (fun o h=>(aH o h).elim) (fun _ h=>h.elim),hc'.bb⟩ hr' (hdd.trans hd) (eJ.2.trans hl) eJ.1
 |seq x y jH jG=>
  intro hs Q pe L st g w a h hc hr hd hl hu;simp only [ec,zzh] at hs;refine wpIn_seq (wpIn_mono (jH hs.1 _ pe L st g w a h hc hr hd hl hu) ?_);rintro ex a' w' ⟨e,eN,L',aA,g',rfl,hq,hc',hr',aW,hl',bD⟩;cases e with
  |normal=>exact jG hs.2 Q eN L' aA g' w' a' hq hc' hr' aW hl' bD
  |exit id=>exact ⟨.exit id,eN,L',aA,g',rfl,hq,hc',hr',aW,hl',bD⟩
  |ret=>exact ⟨.ret,eN,L',aA,g',rfl,hq,hc',hr',aW,hl',bD⟩
 |cond c x y jH jG=>
  intro hs Q pe L st g w a h hc hr hd hl hu;simp only [ec,zzh] at hs;obtain ⟨v,hv,h1,h2⟩:=Ri h;have hev:=Wp (hr.eval c) hv;cases v with
  |true=>exact wpIn_cond_true hev (jH hs.1 Q pe L st g w a (h1 rfl) hc hr hd hl hu)
  |false=>exact wpIn_cond_false hev (jG hs.2 Q pe L st g w a (h2 rfl) hc hr hd hl hu)
 |block id x ih=>
  intro hs Q pe L st g w a h hc hr hd hl hu;refine wpIn_block (wpIn_mono (ih hs _ pe L st g w a h hc hr hd hl hu) ?_);rintro ex a' w' ⟨e,eN,L',aA,g',rfl,hq,hc',hr',aW,hl',bD⟩;cases e with
  |normal=>exact ⟨.normal,eN,L',aA,g',rfl,hq,hc',hr',aW,hl',bD⟩
  |ret=>exact ⟨.ret,eN,L',aA,g',rfl,hq,hc',hr',aW,hl',bD⟩
  |exit j=>
   simp only [Tq] at hq;by_cases e:j=id
   ·subst e;simp only [Nat.beq_refl,cond_true] at hq;simp only [sm,Exit.inBlock,if_true];exact ⟨.normal,eN,L',aA,g',rfl,hq,hc',hr',aW,hl',bD⟩
   ·rw [qg e,cond_false] at hq;simp only [sm,Exit.inBlock,if_neg e];exact ⟨.exit j,eN,L',aA,g',rfl,hq,hc',hr',aW,hl',bD⟩
 |loop x ih=>
  intro hs Q pe L st g w a h hc hr hd hl hu;obtain ⟨rfl,keep,h⟩:=h;refine Cd fun Y hY=>?_
  have hX:=h (fun vs os=>∀ g w a,j8 B g (bh os) w->i6 g w nt (iz keep vs) a.tmps->a.defers=[]->w.heap[l]? = some (.loop (rec.at none))->i5 g (bh os).h l->Y a w) (fun vs os hb g w a hc hr hd hl hu=>by
   refine hY a w (wpIn_mono (ih hs _ _ _ _ g w a hb hc hr hd hl hu) ?_);rintro ex a' w' ⟨e,eN,L',aA,g',rfl,hq,hc',hr',aW,hl',bD⟩;cases e with
   |normal=>
    obtain ⟨rfl,hq⟩:=hq;obtain ⟨vs',os',g1,hx,k1,k2,_,k4⟩:=Qi aH hp keep hq hc' hr';exact hx g1 w' a' k1 k2 aW hl' (k4 _ (E6 hp keep bD))
   |exit id=>exact ⟨.exit id,eN,L',aA,g',rfl,hq,hc',hr',aW,hl',bD⟩
   |ret=>exact ⟨.ret,eN,L',aA,g',rfl,hq,hc',hr',aW,hl',bD⟩)
  obtain ⟨vs',os',g1,hx,k1,k2,_,k4⟩:=Qi aH hp keep hX hc hr;exact hx g1 w a k1 k2 hd hl (k4 _ (E6 hp keep hu))
 |scope x ih=>intro _ Q pe L st g w a h;exact h.elim
 |rangeFunc f ps x y _ _=>intro _ Q pe L st g w a h;exact h.elim
 |goto k=>intro _ Q pe L st g w a h;exact h.elim
 |refuse why=>intro _ Q pe L st g w a h;exact h.elim
theorem ahm:∀ (args:List AV) (i t:Nat),lk (cg i args) t=if i<=t then (args[t - i]?).getD .bad else .bad
 | [],i,t=>by simp [cg,lk]
 |a::r,i,t=>by
  rw [cg,vu,ahm r (i+1) t];by_cases e:i=t
  ·subst e;simp
  ·rw [if_neg e];by_cases h:i+1<=t
   ·rw [if_pos h,if_pos zO,show t - i=(t - (i+1))+1 from by omega,List.getElem?_cons_succ]
   ·rw [if_neg h,if_neg zO]
theorem B2 {g w} {args:List AV} {vs:List Value} {nt:Nat} (h:bt g w args vs) (h1:args.length<=nt) :
 i6 g w nt (cg 0 args) (vs.toArray++Array.replicate (nt - vs.toArray.size) undef):=by
 have hl:=h.1;refine ⟨⟨by simp;omega,fun p hp=>by cases hp⟩,fun t=>?_⟩;rw [ahm,if_pos (zzb _),Nat.sub_zero];cases ha:args[t]? with
 |none=>exact .bad _
 |some a=>
  obtain ⟨v,hv,hr⟩:=h.get ha;have ht:=(zg.1 hv).1;rw [zze,Array.getElem?_append_left (by simp;omega)];simp only [List.getElem?_toArray,hv];exact hr
theorem Rx {g w} {nt:NT}:∀ (ps:List Tmp) (args:List AV) (vs:List Value) (L:SL) (tmps:Array Value),ps.all (fun t=>nt.has t)=true->args.length=ps.length->bt g w args vs->i6 g w nt L tmps ->
 i6 g w nt (C7 ps args L) ((ps.zip vs).foldl (fun t (p,v)=>t.setIfInBounds p v) tmps)
 | [],args,vs,L,tmps,_,hl,hr,h=>by
  cases args with
  |nil=>simpa [C7] using h
  |cons a r=>simp at hl
 |t::ps,args,vs,L,tmps,kQ,hl,hr,h=>by
  cases args with
  |nil=>simp at hl
  |cons a args=>
   match vs,hr with
   | [],hr=>have:=hr.1;simp at this
   |v::vs,hr=>
    simp only [List.all_cons,zzh] at kQ;have ht:=NT.J1 kQ.1;refine Rx ps args vs ((t,a)::L) (tmps.setIfInBounds t v) kQ.2 (by simpa using hl) hr.tail ⟨h.1.set kQ.1,fun u=>?_⟩;rw [vu,zze,zzz];by_cases e:t=u
    ·subst e;rw [if_pos rfl,if_pos rfl,if_pos (by rw [h.1.size];exact ht.1)];exact hr.head
    ·rw [if_neg e,if_neg e,<- zze];exact h.2 u
theorem ax3 {P:Program} [KP P] {T:eh} (hT:ar P T) (hm:P.follows .mixedOrders=true) {B1:fh} {l:Nat} {nt:NT} {rec:vv} {L0:SL} (aH:B1.ll) (kQ:rec.params.toList.all (fun t=>nt.has t)=true)
 (hs1:ec nt rec.assign=true) (hs2:ec nt rec.body=true) (fQ:rec.assign.ud=true) (lW:rec.body.ud=true) (tY:∀ g h w,tp B1 g h w->i6 g w nt L0 rec.tmps) :
 adp P l rec (oi rec.params.toList (fun p=>wl P T p rec.assign) (fun p=>wl P T p rec.body) L0) B1:=by
 intro N p args X g st w vs hc AQ bJ aJ aL hl hu hR;obtain ⟨hlen,cG,hA⟩:=hR;have hlen:=zzg hlen;have cG:=zB cG;have wA:vs.length=args.length:=aL.1;have hsz:args.length=rec.params.size:=hlen.trans (zz9 ..);have hy:=run_yield (P:=P) (args:=vs.toArray) hl (by show vs.toArray.size=rec.params.size;rw [List.size_toArray,wA,hsz]);refine ⟨_,_,_,_,hy,roundIn_of_wpIn trivial ?_⟩;have hB2:=hc.Rk p (fun _=>False) bJ (far:=fun _=>False) (fun o h=>(aH o h).elim);have hrel:=Rx rec.params.toList args vs L0 rec.tmps kQ hlen aL (tY _ _ _ hc.base);have dX:(((rec.at none).params.zip vs.toArray).foldl (fun tmps (x:Tmp × Value)=>tmps.setIfInBounds x.1 x.2) (rec.at none).tmps)=((rec.params.toList.zip vs).foldl (fun t (x:Tmp × Value)=>t.setIfInBounds x.1 x.2) rec.tmps):=by rw [<- Array.foldl_toList];simp [vv.at]
 have h1:=af8 hT hm (ro:=some l) (N:=N) (B:=kx g st.h w p (fun _=>False)) (nt:=nt) (fun _ h=>h) cG rec.assign hs1 fQ _ _ st g w { tmps:=((rec.at none).params.zip vs.toArray).foldl (fun tmps (x:Tmp × Value)=>tmps.setIfInBounds x.1 x.2) (rec.at none).tmps,defers:=[] } hA hB2
  (by show i6 g w nt _ (((rec.at none).params.zip vs.toArray).foldl (fun tmps (x:Tmp × Value)=>tmps.setIfInBounds x.1 x.2) (rec.at none).tmps);rw [dX];exact hrel) (Marks.nil _ _ _ _)
 refine wpIn_mono h1 ?_;rintro ex a1 w1 ⟨e,L1,gi,g1,rfl,hq,hc1,hr1,aF⟩;cases e with
 |exit id=>exact hq.elim
 |ret=>exact hq.elim
 |normal=>
  have eJ:=hc1.base.Qj (bu hl) hu (fun h=>h);have eE:=eJ.2.trans hl;refine ⟨_,run_beginRound eE rfl,?_⟩;have hw1:j8 (kx g st.h w p (· = l)) g1 gi w1:=⟨hc1.ok,hc1.fresh,hc1.base.aFy (fun _ h=>h.elim),hc1.bb⟩;have jX:=z6 (r':={ rec.at none with state:=.busy }) hw1 eE eJ.1 (.inl rfl);have yD:=jX.1.Rk p (fun _=>False) hc1.bb (far:=fun _=>False) (fun _ h=>h);have h2:=af8 hT hm (ro:=some l) (N:=N) (B:=kx g1 gi.h (g7 w1 l (.loop { rec.at none with state:=.busy })) p (fun _=>False)) (nt:=nt) (fun _ h=>h) cG rec.body hs2 lW _ _ gi g1 _ a1 hq yD (hr1.ext jX.2) (aF.z6 eE);refine wpIn_mono h2 ?_;rintro ex a3 w3 ⟨e,L3,nR,g3,rfl,lU,hc3,hr3,oT⟩;have hl2:(g7 w1 l (.loop { rec.at none with state:=.busy })).heap[l]? = some (.loop { rec.at none with state:=.busy }):=ir _ (bu eE);have dF:=hc3.base.Qj (bu hl2) eJ.1 (fun h=>h);have hl3:=dF.2.trans hl2;have kG:j8 (kx g st.h w p (· = l)) g3 nR w3:=⟨hc3.ok,hc3.fresh,jX.1.base.comp hc3.base (zza _) (fun _ h=>h) (fun _ h=>h.elim),hc3.bb⟩;cases e with
  |normal=>
   refine ⟨_,_,run_endRound none hl3,.normal,nR,g3,lU,rfl,(z6 (r':=rec.at none) kG hl3 dF.1 (.inl rfl)).1,ir _ (bu hl3),dF.1⟩
  |ret=>
   refine ⟨_,_,run_endRound (some .ret) hl3,.ret,nR,g3,lU,rfl,(z6 (r':=rec.at (some .ret)) kG hl3 dF.1 (.inl rfl)).1,ir _ (bu hl3),dF.1⟩
  |exit id=>
   refine ⟨_,_,run_endRound (some (.exit id)) hl3,.exit id,nR,g3,lU,rfl,(z6 (r':=rec.at (some (.exit id))) kG hl3 dF.1 (.inl rfl)).1,ir _ (bu hl3),dF.1⟩
theorem akm {g w a v f bA} (h:Kd a=some (f,bA)) (hr:Rel g w a v):∃ vb:Array Value,v = .func (.func f) #[] vb/\bt g w bA vb.toList:=by
 unfold Kd at h
 split at h
 ·rename_i fx first captured
  split at h
  ·rename_i k;cases h;cases hr with
   |fn _ _ _ va vb hs hh hs' bH=>
    have:va = #[]:=Array.eq_empty_of_size_eq_zero (by simpa using hs);subst this;exact ⟨vb,rfl,⟨by simpa using hs',fun i x y hx hy=>bH i x y hx (by simpa using hy)⟩⟩
  ·cases h
 ·rename_i x
  split at h
  ·rename_i fx first captured
   split at h
   ·rename_i k hf;cases h;have:=hr.exact rfl;subst this;have:first = #[]:=by apply Array.ext';simpa using hf
    subst this;exact ⟨captured,rfl,bt.G6 g w _⟩
   ·cases h
  ·cases h
 ·cases h
theorem ap9 {P:Program} [KP P] {f nt:Nat} {code:Code} (h:D4 P f=some (nt,code)) :
 ∃ fn,P.funcs[f]? = some fn/\fn.body=some code/\nq P f=true/\ec fn.ntmps code=true/\fn.results = #[]/\nt=fn.ntmps:=by
 unfold D4 at h
 split at h
 ·rename_i fn hf
  split at h
  ·rename_i body hb;cases hc:(nq P f && ec fn.ntmps body && fn.results.isEmpty) with
   |false=>rw [hc] at h;cases h
   |true=>
    rw [hc] at h;cases h;simp only [zzh] at hc;exact ⟨fn,hf,hb,hc.1.1,hc.1.2,Array.isEmpty_iff.1 hc.2,rfl⟩
  ·cases h
 ·cases h
theorem awu {P:Program} [KP P] {T:eh} (hT:ar P T) (hm:P.follows .mixedOrders=true) {N:Nat} {B:fh} {nt:NT} (aH:B.ll) (hp:B.bb<=1000) (aS:B.n0<=B.w.heap.size) (f:Operand) (ps:Array Tmp) (cK body:Code) (hs:ec nt (.rangeFunc f ps cK body)=true) :
 T6 P none N B nt (.rangeFunc f ps cK body) (wl P T B.bb (.rangeFunc f ps cK body)):=by
 intro Q L st g w a h hc hr hd;simp only [ec,zzh] at hs;obtain ⟨⟨⟨⟨hs1,hs2⟩,hs3⟩,tE⟩,hs5⟩:=hs;obtain ⟨keep,fQ,h⟩:=h;have fQ:=zB fQ;have cc:=Ha aH hp keep hc hr;have cn:=S4 hc keep L;have cm:=Du (L:=L) hp keep hd;generalize fl B.bb keep L st=os at fQ h cc cn cm;generalize ij B.bb keep L st=vs at h cc;generalize g.da (ik B.bb keep L st)=g2 at cc cn cm;obtain ⟨hc2,hr2⟩:=cc;obtain ⟨bJ,aJ,gJ⟩:=cn;generalize iz keep vs=L0 at h hr2;unfold Ni at h;cases hfn:Kd (dw L0 f) with
 |none=>rw [hfn] at h;exact h.elim
 |some q=>
 obtain ⟨gf,bA⟩:=q;rw [hfn] at h;simp only at h;unfold Oa at h;cases hib:D4 P gf with
 |none=>rw [hib] at h;exact h.elim
 |some q=>
 obtain ⟨AG,code⟩:=q;rw [hib] at h;obtain ⟨hle,h⟩:=h;have hle:=zB hle;obtain ⟨fn,xK,hf2,hf3,xJ,xI,rfl⟩:=ap9 hib;obtain ⟨vb,hev,iW⟩:=akm hfn (hr2.eval f);refine wpIn_rangeFunc fun yJ xG=>?_
 obtain ⟨rec,cP⟩:∃ rec:vv,rec = { fn:=yJ,tmps:=a.tmps,params:=ps,assign:=cK,body:=body,defers:=w.heap.size }:=⟨_,rfl⟩;obtain ⟨W1,hW1⟩:∃ W1,(w.alloc (.deferred (some []))).alloc (.loop (rec.at none))=W1:=⟨_,rfl⟩;have hsz:W1.heap.size=w.heap.size+2:=by rw [<- hW1];simp
 have hold:∀ b,b<w.heap.size->W1.heap[b]? = w.heap[b]? := fun b hb=>by rw [<- hW1,RowKit.Below.heap_alloc _ _ _ (by simp;omega)];exact RowKit.Below.heap_alloc w _ _ hb
 have oY:W1.heap[w.heap.size+1]? = some (.loop (rec.at none)):=by rw [<- hW1];have:=World.alloc_heap_new (w.alloc (.deferred (some []))) (.loop (rec.at none));rwa [World.size_alloc] at this
 have yC:W1.heap[w.heap.size]? = some (.deferred (some [])):=by rw [<- hW1];exact (RowKit.Below.heap_alloc _ _ _ (by simp)).trans (World.alloc_heap_new w _)
 have hgrow:=av3 (w':=W1) (bh os).nx (bh os).nx hc2.ok zO hold (by rw [<- hW1];rfl) (by rw [<- hW1];rfl) (by rw [<- hW1];rfl);have tS:j8 B g2 (bh os) W1:=hc2.step (aH.Di _ _) ⟨zza _,hgrow.1⟩ hgrow.2;have tG:=hr2.ext hgrow.1.ext;have wY:=cm.step hgrow.1;have iI:∀ b,w.heap.size<=b->i5 g2 (bh os).h b:=fun b hb o base ho hi=>by obtain ⟨x,hx⟩:=zzv.1 ho;obtain ⟨c,base',q1,_,q3⟩:=hc2.ok.obj o x hx;rw [hi] at q1;cases q1;have:=q3.lt;omega
 have hB1:=tS.Rk os.length (· = w.heap.size+1) aJ (far:=fun _=>False) (fun o h=>(aH o h).elim);have hlen:(#[Value.func (.yield (w.heap.size+1)) #[] #[]]++vb).size<=fn.ntmps:=by have:=iW.1;simp at this ⊢;omega
 refine ⟨w.heap.size+1,[mark w.heap.size],W1,{ target:=.fn (.func gf) vb,args:=#[.func (.yield (w.heap.size+1)) #[] #[]] },W1,gf,#[.func (.yield (w.heap.size+1)) #[] #[]]++vb,W1,?_,?_,fun _ _=>trivial,?_,(fun h=>(by cases h)),?_⟩
 ·rw [<- hW1,cP];exact run_enterLoop_outer _ _ _ _ _
 ·simp only [resolve,hev];simp [go_sem]
 ·simp [invoke,go_sem,sq hf3]
 ·refine callsIn_of_wp_marks xK hf2 trivial ?_;have hR:=ax3 hT hm (B1:=kx g2 (bh os).h W1 os.length (· = w.heap.size+1)) (l:=w.heap.size+1) (nt:=nt) (rec:=rec) (L0:=L0) (fun _ h=>h) (by rw [cP];simpa [Array.all_toList] using hs1) (by rw [cP];exact hs2) (by rw [cP];exact hs3) (by rw [cP];exact tE) (by rw [cP];exact hs5)
   (fun g' h' w' hb=>by rw [cP];exact tG.ext (hb.ahd (fun o h _=>gJ o h)))
  have xZ:adp P (w.heap.size+1) rec (oi ps.toList (fun p=>wl P T p cK) (fun p=>wl P T p body) L0) (kx g2 (bh os).h W1 os.length (· = w.heap.size+1)):=by rw [cP] at hR ⊢;exact hR
  have hrel:i6 g2 W1 fn.ntmps (cg 0 (.sc (.func (.yield (w.heap.size+1)) #[] #[])::bA)) ((#[Value.func (.yield (w.heap.size+1)) #[] #[]]++vb)++Array.replicate (fn.ntmps - (#[Value.func (.yield (w.heap.size+1)) #[] #[]]++vb).size) undef):=by
   have hrl:bt g2 W1 (.sc (.func (.yield (w.heap.size+1)) #[] #[])::bA) (.func (.yield (w.heap.size+1)) #[] #[]::vb.toList):=bt.cons (.sc _) (iW.ext hgrow.1.ext);have:=B2 (nt:=fn.ntmps) hrl (by simpa using hle);have e:(Value.func (.yield (w.heap.size+1)) #[] #[]::vb.toList).toArray = #[Value.func (.yield (w.heap.size+1)) #[] #[]]++vb:=by apply Array.ext';simp
   rw [e] at this;exact this
  have hw:=aEc hT hm (N:=N - 1) (B:=kx g2 (bh os).h W1 os.length (· = w.heap.size+1)) (fun _ h=>h) fQ xZ (.inl rfl) code xJ _ none _ (bh os) g2 W1 { tmps:=(#[Value.func (.yield (w.heap.size+1)) #[] #[]]++vb)++Array.replicate (fn.ntmps - (#[Value.func (.yield (w.heap.size+1)) #[] #[]]++vb).size) undef,defers:=[] } (h _) hB1 hrel rfl oY (iI _ zO);refine wpIn_mono hw ?_;rintro ex a' w' ⟨e,pe,L',aA,g',rfl,hq,hc',hr',aW,hl',bD⟩;have fin:aec Q L0 .normal pe L' aA->bodyPostM (ft none) (N - 1) P fn (rangePost (ft none) N P (w.heap.size+1) (Fin B nt Q) { a with defers:=[mark w.heap.size]++a.defers }) .ret a' w':=by
   intro hq;show LeavesInM (ft none) (N - 1) P fn a'.tmps _ a'.defers .returning w';rw [aW];have hres:(results fn a'.tmps).run P w' = .ok (.tuple #[]) w':=by simp [results,xI]
   refine ⟨_,hres,?_⟩;have hend:=run_endLoop (P:=P) hl' (by cases pe<;>simp [vv.at]);refine ⟨_,_,hend,?_⟩;have hput:=z6 (r':={ rec.at pe with state:=.exhausted }) hc' hl' bD (.inl rfl);have hb:=hput.1.base;have hcB:j8 B g' aA (g7 w' (w.heap.size+1) (.loop { rec.at pe with state:=.exhausted })):=⟨hput.1.ok,fun o h1 _=>hput.1.fresh o h1 (fun h=>h),tS.base.comp hb bJ (fun o h=>(aH o h).elim) (fun n hn=>by subst hn;have:=hc.base.size;exact .inl zO),zzu bJ hput.1.bb⟩;have oB:=tG.ext (hb.ahd (fun o h _=>gJ o h));have oL:Marks B.D B.n0 aA.h g' (g7 w' (w.heap.size+1) (.loop { rec.at pe with state:=.exhausted })) ([mark w.heap.size]++a.defers):=by
    have qN:Marks B.D B.n0 (bh os).h g2 W1 ([mark w.heap.size]++a.defers):=by
     obtain ⟨bs,e1,e2,e3⟩:=wY;obtain ⟨uI,eA,BB,yN⟩:=cm;have aT:bs=uI:=by have:bs.map mark=uI.map mark:=List.append_cancel_right (e1.symm.trans eA);exact (List.map_inj_right (fun x y e=>by simpa [mark] using e)).1 this
     subst aT;refine ⟨w.heap.size::bs,by simp [e1],List.nodup_cons.2 ⟨fun hmem=>?_,e2⟩,fun b hb=>?_⟩
     ·have:=bu (yN _ hmem).2.1;omega
     ·rcases zya.1 hb with rfl|hb
      ·have:=hc.base.size;exact ⟨zO,yC,iI _ (zza _)⟩
      ·exact e3 b hb
    exact Marks.base hb qN (fun b hbl=>by subst hbl;exact ⟨_,oY⟩)
   cases pe with
   |none=>exact Fin.mk' (e:=.normal) hq hcB oB oL
   |some e=>
    show (at2 e).wpIn (ft none) N P (Fin B nt Q) _ _;cases e with
    |normal=>exact wpIn_skip (Fin.mk' (e:=.normal) hq hcB oB oL)
    |ret=>exact wpIn_ret (Fin.mk' (e:=.ret) hq hcB oB oL)
    |exit id=>exact wpIn_exit (Fin.mk' (e:=.exit id) hq hcB oB oL)
  cases e with
  |normal=>exact fin hq
  |ret=>exact fin hq
  |exit id=>exact hq.elim
theorem api {P:Program} [KP P] {T:eh} (hT:ar P T) (hm:P.follows .mixedOrders=true) {N:Nat} {B:fh} {nt:NT} (aH:B.ll) (hp:B.bb<=1000) (aS:B.n0<=B.w.heap.size) (c:Code) (hs:ec nt c=true):T6 P none N B nt c (wl P T B.bb c):=
 atx hT hm aH hp true (fun _ f ps cK body h=>awu hT hm aH hp aS f ps cK body h) c hs (.inl rfl)
theorem D1 {P:Program} [KP P] {F:Fence} {n:Nat} {fn:Func} {tmps:Array Value} {R:Ending->World->Prop} (Good:World->Prop) (S:Nat->Prop) (hput:∀ w b,Good w->S b->w.heap[b]? = some (.deferred (some []))->Good (g7 w b (.deferred none)))
 (hres:∀ w,Good w->∃ v,(results fn tmps).run P w = .ok v w/\R (.returned v) w) :
 ∀ (bs:List Nat) (w:World),Good w->bs.Nodup->(∀ b ∈ bs,S b/\w.heap[b]? = some (.deferred (some [])))->LeavesInM F n P fn tmps R (bs.map mark) .returning w:=by
 intro bs
 induction bs with
 |nil=>intro w hg _ _;exact hres w hg
 |cons b bs ih=>
  intro w hg bR hall;obtain ⟨q1,q2⟩:=hall b (by simp);rw [List.nodup_cons] at bR;refine ⟨by simp,.inl ⟨b,g7 w b (.deferred none),rfl,?_,?_⟩⟩
  ·simp [Instr.takeDeferred,Sem.run_bind,getObj,setObj,Sem.run,q2,Result.andThen,g7]
  ·refine ih _ (hput w b hg q1 q2) bR.2 (fun c hc=>?_);obtain ⟨p1,p2⟩:=hall c (by simp [hc]);exact ⟨p1,(ey w _ (fun e=>bR.1 (by rw [<- e];exact hc))).trans p2⟩
end
variable [TK]
def gK (b0:Nat) (K:Nat->Nat->Prop):Gh:={ b0,inj:=fun _=>none,K }
structure u9 (g:Gh) (h:Tr bo) (K':Nat->Nat->Prop):Prop where
 K:∀ b j,g.K b j->K' b j
 rows:∀ o cells k s e,h.get o=some (.row cells k s e)->∀ b base,g.inj o=some (b,base)->∀ j,s=0\/j<cells.length->K' b (base+j)
theorem u9.nil (g:Gh) (K:Nat->Nat->Prop) (h:∀ b j,g.K b j->K b j):u9 g .nil K:=⟨h,fun o cells k s e ho=>by rw [Tr.get_nil] at ho;cases ho⟩
structure Plain (c:AV):Prop where
 da:∀ τ,c.da τ=c
 names:c.names=[]
 one:c.one=true
 known:c.known=true
structure di (α:Type) where
 sz:Nat
 agg:Bool
 cells:Bool -> α->List AV
 dec:Bool->Tr bo->List AV->Option α
 len:∀ l x,(cells l x).length=sz
 rt:∀ fr h l x,(fr=true->l=true)->dec fr h (cells l x)=some x
 one:agg=false->∀ l x,∃ c,cells l x=[c]/\c.cells=[c]/\c.known=true
 pl:∀ l x,∀ c ∈ cells l x,Plain c
 fr:∀ x,∀ c ∈ cells true x,c.fresh=true
 kd:LK
 Lm:sz=1->∀ {g w l x c v},c ∈ cells l x->Rel g w c v->nw v=kd
 ok:∀ {fr g h w K b0 l vs x},Ok g h w->u9 g h K->(fr=true->b0<=g.b0)->bt g w l vs->dec fr h l=some x->bt (gK b0 K) w (cells fr x) vs
def di.val {α:Type} (C:di α) (l:Bool) (x : α):AV:=bif C.agg then .agg (C.cells l x) else (C.cells l x).headD .bad
def AV.isAgg:AV->Bool
 |.agg _=>true
 |.sc v=>match v with|.agg _=>true|_=>false
 |_=>false
noncomputable def di.fq {α:Type} (C:di α) (fr:Bool) (h:Tr bo) (a:AV):Option α:=bif a.known && (a.isAgg == C.agg) then C.dec fr h a.cells else none
theorem di.Ar {α:Type} (C:di α) (l:Bool) (x : α):(C.val l x).cells=C.cells l x:=by
 unfold di.val;cases h:C.agg with
 |true=>rfl
 |false=>
  obtain ⟨c,h1,h2,_⟩:=C.one h l x;rw [cond_false,h1];exact h2
theorem Ww {c:AV} (h:c.cells=[c]):c.isAgg=false:=by
 cases c with
 |agg l=>
  simp only [AV.cells] at h;have:=congrArg (SizeOf.sizeOf:List AV->Nat) h;simp at this;omega
 |sc v=>
  cases v with
  |agg vs=>
   obtain ⟨l⟩:=vs;simp only [AV.cells,Value.cells] at h
   match l,h with
   | [x],h=>
    simp only [List.map_cons,List.map_nil,List.cons.injEq,and_true,AV.sc.injEq] at h;have:=congrArg (SizeOf.sizeOf:Value->Nat) h;simp at this;omega
   | [],h=>simp at h
   |_::_::_,h=>simp at h
  |_=>rfl
 |_=>rfl
theorem aua {α:Type} (C:di α) (l:Bool) (x : α):(C.val l x).isAgg=C.agg:=by
 unfold di.val;cases h:C.agg with
 |true=>rfl
 |false=>
  obtain ⟨c,h1,h2,_⟩:=C.one h l x;rw [cond_false,h1];exact Ww h2
theorem bt.split {g w l l' vs} (h:bt g w (l++l') vs):∃ u u',vs=u++u'/\bt g w l u/\bt g w l' u':=by have h1:=h.take l.length;have h2:=h.drop l.length;rw [List.take_left] at h1;rw [List.drop_left] at h2;exact ⟨_,_,(zzm l.length vs).symm,h1,h2⟩
theorem Nj {α:Type} (C:di α) (l:Bool) (x : α):(C.val l x).known=true:=by
 unfold di.val;cases h:C.agg with
 |true=>rfl
 |false=>
  obtain ⟨c,h1,_,h2⟩:=C.one h l x;rw [cond_false,h1];exact h2
theorem di.Me {α:Type} (C:di α) (fr:Bool) (h:Tr bo) (l:Bool) (x : α) (hl:fr=true->l=true):C.fq fr h (C.val l x)=some x:=by unfold di.fq;rw [Nj,aua,C.Ar,C.rt _ _ _ _ hl];simp
theorem aht {α:Type} (C:di α) {fr:Bool} {h:Tr bo} {a:AV} {x : α} (hd:C.fq fr h a=some x):a.known=true/\a.isAgg=C.agg/\C.dec fr h a.cells=some x:=by
 unfold di.fq at hd;cases hk:(a.known && (a.isAgg == C.agg)) with
 |false=>rw [hk] at hd;cases hd
 |true=>rw [hk] at hd;simp at hk;exact ⟨hk.1,hk.2,hd⟩
theorem di.J3 {α:Type} (C:di α) {fr g h w K b0 a v x} (aB:Ok g h w) (hl:u9 g h K) (hb:fr=true->b0<=g.b0) (hr:Rel g w a v) (hd:C.fq fr h a=some x):Rel (gK b0 K) w (C.val fr x) v:=by
 obtain ⟨h1,h2,h3⟩:=aht C hd;have hc:=hr.cells h1;have hx:=C.ok (b0:=b0) aB hl hb hc h3;unfold di.val;cases hg:C.agg with
 |true=>
  rw [hg] at h2;have:∃ vs,v = .agg vs:=by
   cases hr with
   |agg l vs=>exact ⟨vs,rfl⟩
   |sc v=>cases v<;>first|exact ⟨_,rfl⟩|cases h2
   |_=>cases h2
  obtain ⟨vs,rfl⟩:=this;exact .agg _ vs (by simpa [Value.cells] using hx.1) (fun i a v ha hv=>hx.2 i a v ha (by simpa [Value.cells] using hv))
 |false=>
  obtain ⟨c,h4,_⟩:=C.one hg fr x;rw [cond_false,h4];rw [h4] at hx;have hv:v.cells.toList=[v]:=by
   rw [hg] at h2;have h5:=hx.1;cases hr with
   |agg=>cases h2
   |sc v=>cases v<;>first|rfl|cases h2
   |bad=>cases h1
   |_=>rfl
  rw [hv] at hx;exact hx.head
theorem Ih {l:List AV} (h:∀ c ∈ l,c.names=[]):AV.names.go l=[]:=by
 induction l with
 |nil=>rfl
 |cons a l ih=>simp [AV.names.go,h a (by simp),ih (fun c hc=>h c (by simp [hc]))]
theorem M6 {l:List AV} (h:∀ c ∈ l,c.fresh=true):AV.fresh.go l=true:=by
 induction l with
 |nil=>rfl
 |cons a l ih=>simp [AV.fresh.go,h a (by simp),ih (fun c hc=>h c (by simp [hc]))]
theorem T0 {τ:Nat->Option Nat} {l:List AV} (h:∀ c ∈ l,c.da τ=c):AV.da.go τ l=l:=by
 induction l with
 |nil=>rfl
 |cons a l ih=>simp [AV.da.go,h a (by simp),ih (fun c hc=>h c (by simp [hc]))]
theorem Ph {α:Type} (C:di α) (l:Bool) (x : α):(C.agg=true/\C.val l x = .agg (C.cells l x))\/(C.agg=false/\C.val l x ∈ C.cells l x):=by
 cases h:C.agg with
 |true=>exact .inl ⟨rfl,by simp [di.val,h]⟩
 |false=>
  obtain ⟨c,h1,_⟩:=C.one h l x;refine .inr ⟨rfl,?_⟩;simp [di.val,h,h1]
theorem Ji {α:Type} (C:di α) (τ:Nat->Option Nat) (l:Bool) (x : α):(C.val l x).da τ=C.val l x:=by
 rcases Ph C l x with ⟨_,h⟩|⟨_,h⟩
 ·rw [h,AV.da,T0 (fun c hc=>(C.pl l x c hc).da τ)]
 ·exact (C.pl l x _ h).da τ
theorem O0 {α:Type} (C:di α) (l:Bool) (x : α):(C.val l x).names=[]:=by
 rcases Ph C l x with ⟨_,h⟩|⟨_,h⟩
 ·rw [h,AV.names];exact Ih (fun c hc=>(C.pl l x c hc).names)
 ·exact (C.pl l x _ h).names
theorem aa5 {α:Type} (C:di α) (x : α):(C.val true x).fresh=true:=by
 rcases Ph C true x with ⟨_,h⟩|⟨_,h⟩
 ·rw [h,AV.fresh];exact M6 (fun c hc=>C.fr x c hc)
 ·exact C.fr x _ h
noncomputable def Bc {α:Type} (C:di α) (fr:Bool) (h:Tr bo):List AV->Option (List α)
 | []=>some []
 |a::r=>match C.fq fr h a,Bc C fr h r with
  |some x,some xs=>some (x::xs)
  |_,_=>none
noncomputable def yd {α:Type} (C:di α) (fr:Bool) (h:Tr bo):Nat->List AV->Option (List α)
 |0,_=>some []
 |n+1,l=>match C.dec fr h (l.take C.sz),yd C fr h n (l.drop C.sz) with
  |some x,some xs=>some (x::xs)
  |_,_=>none
theorem Xo {α:Type} (C:di α) (fr:Bool) (h:Tr bo) (l:Bool) (hl:fr=true->l=true):∀ xs:List α,Bc C fr h (xs.map (C.val l))=some xs
 | []=>rfl
 |x::xs=>by simp only [List.map_cons,Bc,C.Me fr h l x hl,Xo C fr h l hl xs]
theorem aam {α:Type} (C:di α) (fr:Bool) (h:Tr bo) (l:Bool) (hl:fr=true->l=true):∀ xs:List α,yd C fr h xs.length (xs.flatMap (C.cells l))=some xs
 | []=>rfl
 |x::xs=>by
  have h1:(C.cells l x++xs.flatMap (C.cells l)).take C.sz=C.cells l x:=by rw [<- C.len l x,List.take_left]
  have h2:(C.cells l x++xs.flatMap (C.cells l)).drop C.sz=xs.flatMap (C.cells l):=by rw [<- C.len l x,List.drop_left]
  simp only [List.flatMap_cons,List.length_cons,yd,h1,h2,C.rt fr h l x hl,aam C fr h l hl xs]
theorem auc {α:Type} (C:di α) {fr g h w K b0} (aB:Ok g h w) (hl:u9 g h K) (hb:fr=true->b0<=g.b0):∀ (es:List AV) (vs:List Value) (xs:List α),bt g w (es.flatMap AV.cells) vs->Bc C fr h es=some xs ->
 bt (gK b0 K) w (xs.flatMap (C.cells fr)) vs/\xs.length=es.length:=by
 intro es
 induction es with
 |nil=>intro vs xs hr hd;simp [Bc] at hd;subst hd;exact ⟨⟨by simpa using hr.1,fun i a v ha=>by simp at ha⟩,rfl⟩
 |cons e es ih=>
  intro vs xs hr hd;rw [List.flatMap_cons] at hr;obtain ⟨u,u',rfl,h1,h2⟩:=hr.split;simp only [Bc] at hd
  split at hd
  ·rename_i x xs' hx cF;simp at hd;subst hd;obtain ⟨q1,q2⟩:=ih u' xs' h2 cF;exact ⟨by rw [List.flatMap_cons];exact (C.ok aB hl hb h1 (aht C hx).2.2).append q1,by simp [q2]⟩
  ·cases hd
theorem aB9 {α:Type} (C:di α) {fr g h w K b0} (aB:Ok g h w) (hl:u9 g h K) (hb:fr=true->b0<=g.b0):∀ (n:Nat) (l:List AV) (vs:List Value) (xs:List α),bt g w l vs->l.length=n * C.sz->yd C fr h n l=some xs ->
 bt (gK b0 K) w (xs.flatMap (C.cells fr)) vs/\xs.length=n:=by
 intro n
 induction n with
 |zero=>
  intro l vs xs hr hlen hd;simp [yd] at hd;subst hd;have:l=[]:=by apply zzf;omega
  subst this;exact ⟨⟨by simpa using hr.1,fun i a v ha=>by simp at ha⟩,rfl⟩
 |succ n ih=>
  intro l vs xs hr hlen hd;simp only [yd] at hd
  split at hd
  ·rename_i x xs' hx cF;simp at hd;subst hd;have h1:=hr.take C.sz;have h2:=hr.drop C.sz;obtain ⟨q1,q2⟩:=ih _ _ xs' h2 (by rw [zzt,hlen,Nat.succ_mul];omega) cF;refine ⟨?_,by simp [q2]⟩;have:=(C.ok aB hl hb h1 hx).append q1;rw [List.flatMap_cons,<- zzm C.sz vs];exact this
  ·cases hd
def O9 (sz:Nat) (kd:LK) (et:TypeId):Bool:=(match TK.sz et with|some n=>Nat.beq n sz|none=>false) && (!Nat.beq sz 1 || decide (TK.kd et=kd))
theorem aD7 {sz:Nat} {kd:LK} {et:TypeId} (h:O9 sz kd et=true):TK.sz et=some sz/\(sz=1->TK.kd et=kd):=by
 unfold O9 at h;rw [zzh] at h;obtain ⟨h1,h2⟩:=h;constructor
 ·cases hs:TK.sz et with
  |none=>rw [hs] at h1;cases h1
  |some n=>rw [hs] at h1;rw [zzg h1]
 ·intro e;subst e;simpa using h2
def ze (fr:Bool) (sz:Nat) (kd:LK) (st off len n:Nat) (et:TypeId):Bool:=!fr || (Nat.beq st 0 && (Nat.beq off 0 && Nat.beq (n * sz) len) && O9 sz kd et)
theorem aw8 {sz:Nat} {kd:LK} {st off len n:Nat} {et:TypeId} (h:ze true sz kd st off len n et=true):st=0/\off=0/\n * sz=len/\TK.sz et=some sz/\(sz=1->TK.kd et=kd):=by simp only [ze,Bool.not_true,Bool.false_or,zzh] at h;exact ⟨zzg h.1.1,zzg h.1.2.1,zzg h.1.2.2,aD7 h.2⟩
noncomputable def kf {α:Type} (C:di α) (fr:Bool) (h:Tr bo) (off len:Nat) (x:bo):Option (List α):=
 match x with
 |.row cells _ st et=>bif Nat.ble (off+len * C.sz) cells.length && ze fr C.sz C.kd st off cells.length len et then yd C fr h len ((cells.drop off).take (len * C.sz)) else none
 |_=>none
noncomputable def gy {α:Type} (C:di α) (fr:Bool) (h:Tr bo) (a:AV):Option (List α):=
 match a with
 |.sc v=>match v with
  |.slice none 0 0=>some []
  |_=>none
 |.vl l sz es=>bif Nat.beq sz C.sz && (l || !fr) then Bc C fr h es else none
 |.sl o off len sz=>bif Nat.beq sz C.sz then (h.get o).bind (kf C fr h off len) else none
 |_=>none
noncomputable def azp {α:Type} (C:di α) (fr:Bool) (h:Tr bo) (l:List AV):Option (List α):=
 match l with
 | [a]=>gy C fr h a
 |_=>none
def kg (off n:Nat) (c:Nat->Value):List Value:=(List.range n).map fun j=>c (off+j)
theorem aqz {α:Type} (C:di α) {fr b0 K w} {xs:List α} {vs:List Value} {b off cap:Nat} (hr:bt (gK b0 K) w (xs.flatMap (C.cells fr)) vs) (aK:xs.length<=cap) (hb:fr=true->b0<=b)
 (hc:∀ j v,vs[j]? = some v->K b (off+j)/\w.cell? ⟨b,off+j,none⟩=some v)
 (hw:fr=true->Whole (gK b0 K) w b off cap C.sz xs.length (fun j=>vs.getD j undef)):Rel (gK b0 K) w (.vl fr C.sz (xs.map (C.val fr))) (.slice (some ⟨b,off,none⟩) xs.length cap):=by
 have mX:(xs.map (C.val fr)).flatMap AV.cells=xs.flatMap (C.cells fr):=by rw [List.flatMap_map];congr 1;funext x;exact C.Ar fr x
 have:=Rel.vl (g:=gK b0 K) (w:=w) fr C.sz (xs.map (C.val fr)) b off cap (fun j=>vs.getD j undef) (fun e he=>by
  obtain ⟨x,_,rfl⟩:=zyj.1 he;rw [C.Ar,C.len]) hb (by simpa using aK)
  (fun j a ha=>by rw [mX] at ha;obtain ⟨v,hv,_⟩:=hr.get ha;have:=hc j v hv;exact ⟨this.1,by rw [this.2,List.getD_eq_getElem?_getD,hv];rfl⟩)
  (fun j a ha=>by rw [mX] at ha;obtain ⟨v,hv,hrel⟩:=hr.get ha;show Rel _ _ a (vs.getD j undef);rw [List.getD_eq_getElem?_getD,hv];exact hrel) (fun e=>by rw [zzo];exact hw e)
 simpa using this
theorem aA4 {α:Type} (C:di α) {fr g h w K b0 a v xs} (aB:Ok g h w) (hl:u9 g h K) (hb0:fr=true->b0<=g.b0) (hr:Rel g w a v) (hd:gy C fr h a=some xs):Rel (gK b0 K) w (.vl fr C.sz (xs.map (C.val fr))) v:=by
 cases hr with
 |sc v=>
  simp only [gy] at hd
  split at hd
  ·simp at hd;subst hd;exact .jy _ _
  ·cases hd
 |jy loc sz=>
  simp only [gy] at hd;cases hb:(Nat.beq sz C.sz && (loc || !fr)) with
  |false=>rw [hb] at hd;cases hd
  |true=>rw [hb] at hd;simp [Bc] at hd;subst hd;exact .jy _ _
 |tv loc sz a=>
  simp only [gy] at hd;cases hb:(Nat.beq sz C.sz && (loc || !fr)) with
  |false=>rw [hb] at hd;cases hd
  |true=>rw [hb] at hd;simp [Bc] at hd;subst hd;exact .tv _ _ a
 |vl loc sz es b off cap c hsz hloc aK hc hrel nY=>
  simp only [gy] at hd;cases hb:(Nat.beq sz C.sz && (loc || !fr)) with
  |false=>rw [hb] at hd;cases hd
  |true=>
   rw [hb,cond_true] at hd;have mH:fr=true->b0<=b:=fun e=>by rw [e] at hb;simp at hb;have:=hloc hb.2;have:=hb0 e;omega
   have fF:bt g w (es.flatMap AV.cells) (kg 0 (es.flatMap AV.cells).length c):=by refine ⟨by simp [kg],fun i a v ha hv=>?_⟩;have hi:=(zg.1 ha).1;simp only [kg,zzj,zyi hi,Option.map_some,Option.some.injEq,Nat.zero_add] at hv;subst hv;exact hrel i a ha
   obtain ⟨q1,q2⟩:=auc C (b0:=b0) aB hl hb0 es _ xs fF hd;rw [<- q2];refine aqz C q1 zO mH (fun j v hv=>?_) ?_;have hj:j<(es.flatMap AV.cells).length:=by have:=(zg.1 hv).1;simpa [kg] using this
   simp only [kg,zzj,zyi hj,Option.map_some,Option.some.injEq,Nat.zero_add] at hv;subst hv;have:=hc j _ (zh hj);exact ⟨hl.K _ _ this.1,this.2⟩;intro e;rw [e] at hb;simp at hb;obtain ⟨w1,⟨cs,et,w2,w3,w4,w5,w6⟩,w7,w8⟩:=nY hb.2;have hsz':sz=C.sz:=zzg (by simpa using hb.1);rw [<- hsz'];refine ⟨fun j=>hl.K _ _ (w1 j),⟨cs,et,w2,w3,w4,w5,fun e1 j x hj hx=>?_⟩,fun e1 e2=>w7 e1 zO,w8⟩;have hn : 0<es.length:=by
    rcases Nat.eq_zero_or_pos es.length with h0|h0
    ·have:=w7 e1 h0;omega
    ·exact h0
   have gQ:=Iu es hsz;have h0:(kg 0 (es.flatMap AV.cells).length c).getD 0 undef=c 0:=by rw [List.getD_eq_getElem?_getD,kg,zzj,zyi (by rw [gQ,e1];omega)];rfl
   simp only [h0];exact (w6 e1 j x hj hx).imp id (fun q=>⟨q.1,fun h=>q.2 zO⟩)
 |sl o off len sz b base cap hi aK hm hroom=>
  simp only [gy] at hd;cases hb:Nat.beq sz C.sz with
  |false=>rw [hb] at hd;cases hd
  |true=>
   rw [hb,cond_true,Option.bind_eq_some_iff] at hd;obtain ⟨x,hx,hd⟩:=hd;obtain ⟨b',base',hi',iY,hrow⟩:=aB.obj o x hx;rw [hi] at hi';cases hi';cases x with
   |map es=>cases hd
   |loop=>cases hd
   |row cells k st et=>
    simp only [kf] at hd;cases gL:(Nat.ble (off+len * C.sz) cells.length && ze fr C.sz C.kd st off cells.length len et) with
    |false=>rw [gL] at hd;cases hd
    |true=>
     rw [gL,cond_true] at hd;rw [zzh] at gL;obtain ⟨hle,hro⟩:=gL;have qQ:=zB hle;obtain ⟨cs,fz,r1,r2,r3,r4,r5,r6,r7,r8⟩:=hrow;have hpart:bt g w ((cells.drop off).take (len * C.sz)) (kg (base+off) (len * C.sz) (fun j=>cs.getD j undef)):=by
      refine ⟨by simp [kg];omega,fun i a v ha hv=>?_⟩;rw [zye,zz6] at ha;by_cases bO:i<len * C.sz
      ·rw [if_pos bO] at ha;obtain ⟨u,hu,hrel⟩:=r3 _ a ha;simp only [kg,zzj,zyi bO,Option.map_some,Option.some.injEq] at hv;subst hv;rw [zze,zyk,hu];exact hrel
      ·rw [if_neg bO] at ha;cases ha
     obtain ⟨q1,q2⟩:=aB9 C (b0:=b0) aB hl hb0 len _ _ xs hpart (by simp;omega) hd;subst q2;refine aqz C q1 aK (fun e=>by have:=hb0 e;omega) (fun j v hv=>?_) ?_;have hj:j<xs.length * C.sz:=by have:=(zg.1 hv).1;simpa [kg] using this
     simp only [kg,zzj,zyi hj,Option.map_some,Option.some.injEq] at hv;obtain ⟨u,hu,_⟩:=r3 (off+j) (cells[off+j]'zO) (by simp);have cO:=hl.rows o cells k st et hx b base hi (off+j) (.inr zO);rw [<- zyk] at cO hu;refine ⟨cO,?_⟩;rw [jr r1,hu,<- hv,zze,hu];rfl;intro e;subst e;obtain ⟨s1,s2,s3,s4,s5⟩:=aw8 hro;subst s1 s2;obtain ⟨p1,p2,p3⟩:=r8 rfl;subst p1;have gC:sz=C.sz:=zzg hb;obtain ⟨cs1,e1,gV,t1,t2⟩:=hroom;rw [r1] at t1;cases t1;have hf:=r6 (by decide);subst hf;refine ⟨fun j=>by have:=hl.rows o cells k 0 et hx b 0 hi j (.inl rfl);rw [Nat.zero_add] at this;exact this,⟨cs,et,r1,by rw [<- gC];exact t2,s4,by simp,fun e1 j x hj kO=>?_⟩,fun e1 e2=>?_,hm⟩
     ·have hn : 0<xs.length:=by
       rcases Nat.eq_zero_or_pos xs.length with h0|h0
       ·have:=p2 (by rw [<- s3,h0,Nat.zero_mul]);rw [this,gC,e1] at t2;omega
       ·exact h0
      have hk:∀ (j:Nat) v,j<xs.length->cs[j]? = some v->nw v=C.kd:=fun j v hj hv=>by
       have hv':(kg (0+0) (xs.length * C.sz) (fun j=>cs.getD j undef))[j]? = some v:=by rw [kg,zzj,zyi (by rw [e1];omega)];simp [zze,hv]
       have fT:j<(xs.flatMap (C.cells true)).length:=by rw [<- q1.1];exact (zg.1 hv').1
       have hc:=zh fT;obtain ⟨x,_,vZ⟩:=List.mem_flatMap.1 (zyl fT);exact C.Lm e1 vZ (q1.2 j _ v hc hv')
      have h0:cs[0]? = some (cs.getD 0 undef):=by
       have : 0<cs.size:=by rw [gC,e1] at t2;omega
       rw [zze,zz3 this];rfl
      have h1:(kg (0+0) (xs.length * C.sz) (fun j=>cs.getD j undef)).getD 0 undef=cs.getD 0 undef:=by rw [List.getD_eq_getElem?_getD,kg,zzj,zyi (by rw [e1];omega)];rfl
      simp only [h1];rw [hk 0 _ hn h0];simp only [Nat.zero_add] at kO;by_cases hjn:j<xs.length
      ·exact .inr ⟨hk j x hjn kO,fun hle=>by omega⟩
      ·rw [<- s5 e1];exact (p3 j x (by rw [<- s3,e1];omega) kO).imp id (fun q=>⟨q.1,fun _=>q.2⟩)
     ·have:=p2 (by rw [<- s3,e2,Nat.zero_mul]);rw [this,gC,e1] at t2;omega
 |r9 o off sz a=>
  simp only [gy] at hd;cases hb:Nat.beq sz C.sz with
  |false=>rw [hb] at hd;cases hd
  |true=>
   rw [hb,cond_true,Option.bind_eq_some_iff] at hd;obtain ⟨x,hx,hd⟩:=hd;have cF:xs=[]:=by
    cases x with
    |row cells k st et=>
     simp only [kf] at hd;cases hle:(Nat.ble (off+0 * C.sz) cells.length && ze fr C.sz C.kd _ off cells.length 0 _) with
     |false=>rw [hle] at hd;cases hd
     |true=>rw [hle] at hd;simp [yd] at hd;exact hd
    |_=>cases hd
   subst cF;exact .tv _ _ a
 |tg o off sz=>
  simp only [gy] at hd;cases hb:Nat.beq sz C.sz with
  |false=>rw [hb] at hd;cases hd
  |true=>
   rw [hb,cond_true,Option.bind_eq_some_iff] at hd;obtain ⟨x,hx,hd⟩:=hd;have cF:xs=[]:=by
    cases x with
    |row cells k st et=>
     simp only [kf] at hd;cases hle:(Nat.ble (off+0 * C.sz) cells.length && ze fr C.sz C.kd _ off cells.length 0 _) with
     |false=>rw [hle] at hd;cases hd
     |true=>rw [hle] at hd;simp [yd] at hd;exact hd
    |_=>cases hd
   subst cF;exact .jy _ _
 |_=>cases hd
end Go.Vm
