/- A piece of the proof of the law ZoneMakes: lemmas. No condition. -/
import Derived.Test.YtjagjbceegbaiaaGreatProg
import Derived.Test.YtjagjbceegbaiaaGreatRows
import Derived.Test.YtjagjbceegbaiaaGreatM0
set_option linter.unusedSimpArgs false
set_option linter.unusedVariables false
set_option linter.unusedSectionVars false
set_option maxRecDepth 2000000
namespace Go.Vm
variable [TK]
theorem aHi {α β:Type} {P:Program}:∀ (s:Sem α) (f : α->Sem β),ev P (s.bind f)=(ev P s).bind fun a=>ev P (f a):=by
 intro s f
 induction s with
 |pure a=>simp [Sem.bind,ev]
 |program k ih=>simp only [Sem.bind,ev];exact ih P
 |choose q k ih=>
  simp only [Sem.bind,ev]
  split
  ·exact ih 0
  ·rfl
 |mark m k ih=>simp only [Sem.bind,ev];exact ih
 |_=>simp [Sem.bind,ev]
theorem qi {α β:Type} {P:Program} (s:Sem α) (f : α->Sem β):ev P (s >>= f)=(ev P s).bind fun a=>ev P (f a):=aHi s f
theorem Gq {α:Type} {P:Program} (a : α):ev P (pure a:Sem α)=some a:=rfl
theorem alz (kind:TypeDesc) (k:Value):∀ (l1 l2:List MapEntry) (i:Nat),l1.map (·.key)=l2.map (·.key) ->
 ∀ r,Instr.findNow kind k l1 i=some r->(r=none/\Instr.findNow kind k l2 i=some none)\/∃ j v m,r=some (i+j,v)/\l2[j]? = some m/\Instr.findNow kind k l2 i=some (some (i+j,m.val)):=by
 intro l1
 induction l1 with
 |nil=>
  intro l2 i hk r h;cases l2 with
  |cons=>simp at hk
  |nil=>simp [Instr.findNow] at h ⊢;exact h.symm
 |cons e l1 ih=>
  intro l2 i hk r h;cases l2 with
  |nil=>simp at hk
  |cons e2 l2=>
  simp only [List.map_cons,List.cons.injEq] at hk;obtain ⟨eN,hk2⟩:=hk;simp only [Instr.findNow] at h ⊢;rw [<- eN];cases hs:Instr.sameNow kind k e.key with
  |none=>simp [hs] at h
  |some q=>
  cases q with
  |true=>
   simp [hs] at h;subst h;exact .inr ⟨0,e.val,e2,rfl,rfl,rfl⟩
  |false=>
   simp only [hs] at h;rcases ih l2 (i+1) hk2 r h with ⟨h1,h2⟩|⟨j,v,m,h1,h2,h3⟩
   ·exact .inl ⟨h1,h2⟩
   ·exact .inr ⟨j+1,v,m,by rw [h1];congr 2;omega,by simpa using h2,by rw [show i+(j+1)=i+1+j from by omega];exact h3⟩
theorem aal {P:Program} (kt:TypeId) (k:Value) (w:World):∀ (l1 l2:List MapEntry) (i:Nat),l1.map (·.key)=l2.map (·.key) ->
 ∀ r,ev P (Instr.findAsking kt k l1 i)=some r->(r=none/\(Instr.findAsking kt k l2 i).run P w = .ok none w)\/∃ j v m,r=some (i+j,v)/\l2[j]? = some m/\(Instr.findAsking kt k l2 i).run P w = .ok (some (i+j,m.val)) w:=by
 intro l1
 induction l1 with
 |nil=>
  intro l2 i hk r h;cases l2 with
  |cons=>simp at hk
  |nil=>simp [Instr.findAsking,Gq] at h ⊢;exact h.symm
 |cons e l1 ih=>
  intro l2 i hk r h;cases l2 with
  |nil=>simp at hk
  |cons e2 l2=>
  simp only [List.map_cons,List.cons.injEq] at hk;obtain ⟨eN,hk2⟩:=hk;simp only [Instr.findAsking,qi] at h ⊢;cases hq:ev P (Op.equal kt k e.key) with
  |none=>simp [hq] at h
  |some q=>
  have hrun:=G3 _ _ w hq;rw [eN] at hrun;rw [hq] at h;cases q with
  |true=>
   simp [Gq] at h;subst h;exact .inr ⟨0,e.val,e2,rfl,rfl,by simp [hrun]⟩
  |false=>
   simp at h;rcases ih l2 (i+1) hk2 r h with ⟨h1,h2⟩|⟨j,v,m,h1,h2,h3⟩
   ·exact .inl ⟨h1,by simp [hrun,h2]⟩
   ·exact .inr ⟨j+1,v,m,by rw [h1];congr 2;omega,by simpa using h2,by rw [show i+(j+1)=i+1+j from by omega];simp [hrun,h3]⟩
theorem agn {P:Program} {t:TypeId} {d:TypeDesc} (h:ev P (underlying t)=some d):P.underlying t=some d:=by
 have h1:=G3 (P:=P) _ _ (default:World) h;cases hu:P.underlying t with
 |some d'=>rw [run_underlying hu] at h1;cases h1;rfl
 |none=>
  exfalso;have:∀ w,(underlying t).run P w ≠ .ok d w:=by intro w;simp only [underlying,Sem.run_bind];simp [program,Sem.run,hu,stuck]
  exact this _ h1
theorem apr {P:Program} {g:Gh} {w:World} {kt:TypeId} {k:Value} {es:List (Value × AV)} {ms:Array MapEntry} (hlen:ms.size=es.length)
 (gJ:∀ (i:Nat) e m,es[i]? = some e->ms[i]? = some m->m.key=e.1/\Rel g w e.2 m.val) {r:Option Nat} (h:(ev P (Instr.findKey kt k (vt es))).map (fun r=>r.map (·.1))=some r) :
 (r=none/\(Instr.findKey kt k ms.toList).run P w = .ok none w)\/∃ i e m,r=some i/\es[i]? = some e/\ms[i]? = some m/\(Instr.findKey kt k ms.toList).run P w = .ok (some (i,m.val)) w:=by
 unfold vt at h;have iP:(es.map fun e=>({ key:=e.1,val:=undef,born:=0 }:MapEntry)).map (·.key)=ms.toList.map (·.key):=by
  apply List.ext_getElem?;intro i;simp only [List.map_map,zzj,zz2];by_cases hi:i<es.length
  ·have e1:=zh hi;have e2:=zz3 (xs:=ms) (i:=i) zO;rw [e1,e2];simp only [Option.map_some,Function.comp_apply];rw [(gJ i _ _ e1 e2).1]
  ·rw [zzy zO,Array.getElem?_eq_none zO];rfl
 have conv:∀ (j:Nat) (m:MapEntry),ms.toList[j]? = some m->∃ e,es[j]? = some e/\ms[j]? = some m:=by
  intro j m hm;rw [zz2] at hm;have hj:j<es.length:=by rw [<- hlen];exact (zz1.1 hm).1
  exact ⟨es[j],zh hj,hm⟩
 simp only [zzk] at h;obtain ⟨r0,h1,rfl⟩:=h;unfold Instr.findKey at h1;rw [qi] at h1;cases hu:ev P (underlying kt) with
 |none=>simp [hu] at h1
 |some d=>
 have cI:=agn hu;rw [hu] at h1;simp only [Option.bind_some] at h1;cases hf:Instr.findNow d k (es.map fun e=>({ key:=e.1,val:=undef,born:=0 }:MapEntry)) 0 with
 |some r1=>
  rw [hf] at h1;simp [Gq] at h1;subst h1;rcases alz d k _ _ 0 iP r1 hf with ⟨rfl,h3⟩|⟨j,v,m,rfl,h3,h4⟩
  ·exact .inl ⟨rfl,by simp [Instr.findKey,run_underlying cI,h3]⟩
  ·obtain ⟨e,e1,e2⟩:=conv j m h3;exact .inr ⟨j,e,m,by simp,e1,e2,by simp [Instr.findKey,run_underlying cI,h4]⟩
 |none=>
  have hf2:Instr.findNow d k ms.toList 0=none:=by
   have key:∀ (l1 l2:List MapEntry) (i:Nat),l1.map (·.key)=l2.map (·.key)->Instr.findNow d k l1 i=none->Instr.findNow d k l2 i=none:=by
    intro l1
    induction l1 with
    |nil=>intro l2 i hk h;simp [Instr.findNow] at h
    |cons a l1 ih=>
     intro l2 i hk h;cases l2 with
     |nil=>simp at hk
     |cons b l2=>
     simp only [List.map_cons,List.cons.injEq] at hk;simp only [Instr.findNow] at h ⊢;rw [<- hk.1];cases hs:Instr.sameNow d k a.key with
     |none=>rfl
     |some q=>
      cases q with
      |true=>simp [hs] at h
      |false=>simp only [hs] at h ⊢;exact ih l2 (i+1) hk.2 h
   exact key _ _ 0 iP hf
  rw [hf] at h1;simp only at h1;rcases aal kt k w _ _ 0 iP r0 h1 with ⟨rfl,h3⟩|⟨j,v,m,rfl,h3,h4⟩
  ·exact .inl ⟨rfl,by simp [Instr.findKey,run_underlying cI,hf2,h3]⟩
  ·obtain ⟨e,e1,e2⟩:=conv j m h3;exact .inr ⟨j,e,m,by simp,e1,e2,by simp [Instr.findKey,run_underlying cI,hf2,h4]⟩
theorem Gt (d:TypeDesc) (k:Value):∀ (L:List MapEntry) (i:Nat),(∀ m ∈ L,(Instr.sameNow d k m.key).isSome=true) ->
 (Instr.findNow d k L i=some none/\∀ m ∈ L,Instr.sameNow d k m.key=some false)\/∃ j m,L[j]? = some m/\Instr.sameNow d k m.key=some true/\Instr.findNow d k L i=some (some (i+j,m.val))
 | [],i,_=>.inl ⟨rfl,fun m hm=>by cases hm⟩
 |e::L,i,h=>by
  have h0:=h e (by simp);cases hs:Instr.sameNow d k e.key with
  |none=>rw [hs] at h0;cases h0
  |some q=>
   cases q with
   |true=>exact .inr ⟨0,e,rfl,hs,by simp [Instr.findNow,hs]⟩
   |false=>
    rcases Gt d k L (i+1) (fun m hm=>h m (by simp [hm])) with ⟨h1,h2⟩|⟨j,m,h1,h2,h3⟩
    ·refine .inl ⟨by simp [Instr.findNow,hs,h1],fun m hm=>?_⟩;rcases zyb.1 hm with rfl|hm
     ·exact hs
     ·exact h2 m hm
    ·exact .inr ⟨j+1,m,by simpa using h1,h2,by simp only [Instr.findNow,hs];rw [h3,show i+1+j=i+(j+1) from by omega]⟩
theorem Ha (a b:ByteArray):(a == b)=true↔a=b:=by obtain ⟨x⟩:=a;obtain ⟨y⟩:=b;show (x == y)=true↔_;simp
theorem D5 {d:TypeDesc} {k a:Value} {q:Bool} (h:Instr.sameNow d k a=some q) :
 (∃ kd k0 n m,d = .int kd/\k = .int k0 n/\a = .int k0 m/\q=(n == m))\/(∃ s t,d = .string/\k = .string s/\a = .string t/\q=(s == t))\/(∃ x y,d = .bool/\k = .bool x/\a = .bool y/\q=(x == y)):=by
 unfold Instr.sameNow at h
 split at h
 ·split at h
  ·rename_i e;subst e;simp only [Option.some.injEq] at h;exact .inl ⟨_,_,_,_,rfl,rfl,rfl,h.symm⟩
  ·cases h
 ·simp only [Option.some.injEq] at h;exact .inr (.inl ⟨_,_,rfl,rfl,rfl,h.symm⟩)
 ·simp only [Option.some.injEq] at h;exact .inr (.inr ⟨_,_,rfl,rfl,rfl,h.symm⟩)
 ·cases h
theorem apw {d:TypeDesc} {k a b:Value} (ha:Instr.sameNow d k a=some true) (hb:Instr.sameNow d k b=some true):zy a b=false:=by
 rcases D5 ha with ⟨kd,k0,n,m,rfl,rfl,rfl,e⟩|⟨s,t,rfl,rfl,rfl,e⟩|⟨x,y,rfl,rfl,rfl,e⟩
 ·rcases D5 hb with ⟨yB,yD,n',m',_,e2,rfl,e3⟩|⟨s,t,e2,_⟩|⟨x,y,e2,_⟩
  ·cases e2;have e4:=eq_of_beq e.symm;have e5:=eq_of_beq e3.symm;subst e4 e5;simp [zy]
  ·cases e2
  ·cases e2
 ·rcases D5 hb with ⟨yB,yD,n',m',e2,_⟩|⟨s',t',_,e2,rfl,e3⟩|⟨x,y,e2,_⟩
  ·cases e2
  ·cases e2;have e4:=(Ha _ _).1 e.symm;have e5:=(Ha _ _).1 e3.symm;subst e4 e5;have:(s == s)=true:=(Ha _ _).2 rfl;simp [zy,this]
  ·cases e2
 ·rfl
theorem aj2 {d:TypeDesc} {k a b:Value} (h:zy a b=true) (ha:(Instr.sameNow d k a).isSome=true):(Instr.sameNow d k b).isSome=true:=by
 obtain ⟨q,hq⟩:=zzv.1 ha;rcases D5 hq with ⟨kd,k0,n,m,rfl,rfl,rfl,e⟩|⟨s,t,rfl,rfl,rfl,e⟩|⟨x,y,rfl,rfl,rfl,e⟩
 ·cases b<;>first|(cases h;done)|skip
  rename_i k1 n1;simp only [zy,zzh,decide_eq_true_eq] at h;obtain ⟨rfl,_⟩:=h;simp [Instr.sameNow]
 ·cases b<;>first|(cases h;done)|rfl
 ·cases h
theorem apa (a b:Value):zy a b=zy b a:=by
 cases a<;>cases b<;>first|rfl|skip
 ·rename_i k n k' m;simp only [zy];by_cases h1:k=k'
  ·subst h1;have:(n == m)=(m == n):=zyc.2 ⟨fun h=>beq_iff_eq.2 (eq_of_beq h).symm,fun h=>beq_iff_eq.2 (eq_of_beq h).symm⟩;simp [this]
  ·simp [h1,Ne.symm h1]
 ·rename_i s t;simp only [zy];have:(s == t)=(t == s):=zyc.2 (by rw [Ha,Ha];exact eq_comm);rw [this]
theorem Ra:∀ {es:List (Value × AV)},Hi es=true->∀ {i j:Nat} {e e':Value × AV},i<j->es[i]? = some e->es[j]? = some e'->zy e.1 e'.1=true
 | [],_,i,j,e,e',_,h,_=>by simp at h
 |a::r,h,i,j,e,e',cJ,hi,hj=>by
  simp only [Hi,zzh,zz9] at h;obtain ⟨j,rfl⟩:∃ q,j=q+1:=⟨j - 1,zO⟩;cases i with
  |zero=>
   simp at hi;subst hi;exact h.1 e' (zm (by rw [List.getElem?_cons_succ] at hj;exact hj))
  |succ i=>
   rw [List.getElem?_cons_succ] at hi hj;exact Ra h.2 zO hi hj
theorem abh {es:List (Value × AV)} (h:Hi es=true) {i j:Nat} {e e':Value × AV} (cJ:i≠j) (hi:es[i]? = some e) (hj:es[j]? = some e'):zy e.1 e'.1=true:=by
 rcases Nat.lt_or_gt_of_ne cJ with q|q
 ·exact Ra h q hi hj
 ·rw [apa];exact Ra h q hj hi
def aK2 (P:Program) (g:Gh) (w:World) (kt:TypeId) (k:Value) (es:List (Value × AV)) (ms:Array MapEntry) (r:Option Nat):Prop:=
 (r=none/\(Instr.findKey kt k ms.toList).run P w = .ok none w) \/
 ∃ i j e m l,r=some i/\es[i]? = some e/\ms[j]? = some m/\(Instr.findKey kt k ms.toList).run P w = .ok (some (j,m.val)) w/\l.Perm ms.toList/\l[i]? = some m /\
  (∀ (i:Nat) e m,es[i]? = some e->l[i]? = some m->m.key=e.1/\Rel g w e.2 m.val)/\(l=ms.toList/\i=j\/loose es=true)
theorem Fz {P:Program} {g:Gh} {w:World} {kt:TypeId} {k:Value} {es:List (Value × AV)} {ms:Array MapEntry} {c:Nat} (hm:wk g w es ms c) {r:Option Nat} (h:xl P kt k es=some r):aK2 P g w kt k es ms r:=by
 unfold xl at h;cases hlo:loose es with
 |false=>
  rw [hlo] at h;rcases apr hm.len (hm.exact hlo) h with h1|⟨i,e,m,h1,h2,h3,h4⟩
  ·exact .inl h1
  ·exact .inr ⟨i,i,e,m,ms.toList,h1,h2,h3,h4,.refl _,by simpa using h3,fun i e m he fT=>hm.exact hlo i e m he (by simpa using fT),.inl ⟨rfl,rfl⟩⟩
 |true=>
  rw [hlo] at h;cases hn:ast P kt k es with
  |false=>rw [hn] at h;cases h
  |true=>
  rw [hn] at h;simp only [Bool.not_true,Bool.or_true,cond_true] at h;unfold ast at hn;cases hu:P.underlying kt with
  |none=>rw [hu] at hn;cases hn
  |some d=>
  rw [hu] at hn;simp only at hn;have tT:ev P (underlying kt)=some d:=by simp [underlying,program,ev,hu,qi,Gq,Sem.bind,bind]
  have tU:ev P (Instr.findKey kt k (vt es))=Instr.findNow d k (vt es) 0:=by
   unfold Instr.findKey;rw [qi,tT];simp only [Option.bind_some];cases hq:Instr.findNow d k (vt es) 0 with
   |none=>rw [hq] at hn;cases hn
   |some q=>rfl
  rw [tU] at h;unfold loose at hlo;simp only [zzh] at hlo;obtain ⟨fU,hap⟩:=hlo;have fU:=zB fU;obtain ⟨l,p1,p2,p3⟩:=hm.perm;have aY:l.length=es.length:=by rw [p1.length_eq,<- hm.len];simp
  have fD:∀ (i:Nat) m,(vt es)[i]? = some m->∃ e,es[i]? = some e/\m.key=e.1:=fun i m hi=>by simp only [vt,zzj,zzk] at hi;obtain ⟨e,h1,rfl⟩:=hi;exact ⟨e,h1,rfl⟩
  have hes:∀ (i:Nat) e,es[i]? = some e->(Instr.sameNow d k e.1).isSome=true:=by
   obtain ⟨e0,r0,rfl⟩:∃ e0 r0,es=e0::r0:=by
    cases es with
    |nil=>simp at fU
    |cons a r=>exact ⟨a,r,rfl⟩
   have h0:(Instr.sameNow d k e0.1).isSome=true:=by
    simp only [vt,List.map_cons,Instr.findNow] at hn;cases hq:Instr.sameNow d k e0.1 with
    |none=>rw [hq] at hn;cases hn
    |some q=>rfl
   intro i e hi;cases i with
   |zero=>simp at hi;subst hi;exact h0
   |succ i=>exact aj2 (abh hap (i:=0) (j:=i+1) zO rfl hi) h0
  have hmem:∀ m ∈ ms.toList,∃ (i:Nat) (e:Value × AV),l[i]? = some m/\es[i]? = some e/\m.key=e.1:=fun m hmm=>by
   obtain ⟨i,hi⟩:=List.mem_iff_getElem?.1 (p1.mem_iff.2 hmm);have cA:i<es.length:=by rw [<- aY];exact (zg.1 hi).1
   exact ⟨i,es[i],hi,zh cA,(p2 i _ m (zh cA) hi).1⟩
  have nE:∀ m ∈ ms.toList,(Instr.sameNow d k m.key).isSome=true:=fun m hmm=>by obtain ⟨i,e,_,h2,h3⟩:=hmem m hmm;rw [h3];exact hes i e h2
  have nG:∀ m ∈ vt es,(Instr.sameNow d k m.key).isSome=true:=fun m hmm=>by obtain ⟨i,hi⟩:=List.mem_iff_getElem?.1 hmm;obtain ⟨e,h1,h2⟩:=fD i m hi;rw [h2];exact hes i e h1
  have hrun:∀ r,Instr.findNow d k ms.toList 0=some r->(Instr.findKey kt k ms.toList).run P w = .ok r w:=fun r hr=>by simp [Instr.findKey,run_underlying hu,hr]
  rcases Gt d k ms.toList 0 nE with ⟨a1,a2⟩|⟨j,m,a1,a2,a3⟩
  ·rcases Gt d k (vt es) 0 nG with ⟨b1,b2⟩|⟨i,m,b1,b2,b3⟩
   ·rw [b1] at h;simp at h;exact .inl ⟨h.symm,hrun _ a1⟩
   ·exfalso;obtain ⟨e,c1,c2⟩:=fD i m b1;have cA:i<l.length:=by rw [aY];exact (zg.1 c1).1
    have hl:=zh cA;have:=(p2 i e _ c1 hl).1;have hf:=a2 l[i] (p1.mem_iff.1 (zm hl));rw [this,<- c2,b2] at hf;cases hf
  ·obtain ⟨i,e,c1,c2,c3⟩:=hmem m (zm a1);rcases Gt d k (vt es) 0 nG with ⟨b1,b2⟩|⟨i',m',b1,b2,b3⟩
   ·exfalso;have hk:(vt es)[i]? = some { key:=e.1,val:=undef,born:=0 }:=by simp [vt,c2]
    have:=b2 _ (zm hk);simp only at this;rw [<- c3,a2] at this;cases this
   ·obtain ⟨e',d1,d2⟩:=fD i' m' b1;have tK:i'=i:=by
     rcases Nat.decEq i' i with hne|he
     ·have h5:=abh hap hne d1 c2;rw [<- d2,<- c3,apw b2 a2] at h5;cases h5
     ·exact he
    subst tK;rw [b3] at h;simp at h;refine .inr ⟨i',j,e,m,l,h.symm,c2,by simpa using a1,hrun _ (by simpa using a3),p1,c1,p2,.inr ?_⟩;unfold loose;rw [Nat.ble_eq_true_of_le fU,hap];rfl
theorem atd {α:Type} {l k:List α} (h:l.Perm k) (hl:l.length<=1):l=k:=by
 match l,hl with
 | [],_=>exact (h.symm.eq_nil).symm
 | [a],_=>exact (List.perm_singleton.1 h.symm).symm
theorem Om {es es':List (Value × AV)} {l l' k k':List MapEntry} (hx:l=k->l'=k') (hm:l=k\/loose es=true) (hs:stays es es'=true) (hp:l'.Perm k') (hlen:l'.length=es'.length):l'=k'\/loose es'=true:=by
 rcases hm with hm|hm
 ·exact .inl (hx hm)
 ·unfold stays at hs;rw [hm] at hs;simp only [Bool.not_true,Bool.false_or,Bool.or_eq_true] at hs;rcases hs with hs|hs
  ·exact .inr hs
  ·exact .inl (atd hp (by rw [hlen];exact zB hs))
theorem aJm {P:Program} {w:World} {b:Nat} {ms:Array MapEntry} {c:Nat} (o:Obj) (h:w.heap[b]? = some (.map ms c)):(setObj b o).run P w = .ok () (j6 w b o):=by simp [setObj,Sem.run,h,j6]
theorem Ub {P:Program} {g:Gh} {st s1 st':St} {w:World} {o b base:Nat} {es es':List (Value × AV)} {ms ms':Array MapEntry} {c c':Nat} {u:Unit}
 (aB:Ok g st.h w) (ho:st.h.get o=some (.map es)) (hi:g.inj o=some (b,base)) (hb0:base=0) (hm:w.heap[b]? = some (.map ms c)) (hrel:wk g w es' ms' c')
 (hs1:s1.h=st.h/\s1.nx=st.nx) (h:ki o (.map es') s1=some (u,st')) :
 (setObj b (.map ms' c')).run P w = .ok () (j6 w b (.map ms' c'))/\Step g st.h w st.nx st'.nx g st'.h (j6 w b (.map ms' c'))/\Ok g st'.h (j6 w b (.map ms' c')):=by
 obtain ⟨_,aD,bF,aN⟩:=Dm h;have hmod:=Ca (x:=.map es) (x':=.map es') (lo:=st.nx) (up:=st'.nx) (ob':=.map ms' c') aB ho hi hm (fun cs0 e0 nL he=>by cases he)
  (fun j hj=>by simp [World.cell?,hm,kc _ (cd hm)]) aD
  (fun aI=>⟨hb0,ms',c',kc _ (cd hm),hrel.same rfl id fun i e v he=>⟨e,he,rfl,fun hr=>hr.ext aI⟩⟩)
 exact ⟨aJm _ hm,by rw [bF,hs1.1];exact hmod.1,by rw [bF,hs1.1];exact hmod.2⟩
theorem isEmpty_eq {es:List (Value × AV)} {ms:Array MapEntry} (h:ms.size=es.length):ms.isEmpty=es.isEmpty:=by
 cases es with
 |nil=>simp at h;simp [h]
 |cons e es=>
  simp only [List.isEmpty_cons];cases hm:ms.isEmpty with
  |false=>rfl
  |true=>simp at hm;subst hm;simp at h
theorem ag9 {P:Program} {kt et:TypeId} {k:Value} {ok:Bool} {x:bk} {s st':St} {r:AV} (h:tm P kt et k ok x s=some (r,st')) :
 ∃ es,x = .map es/\ev P (Instr.checkKey es.isEmpty 10000 kt k)=some ()/\∃ z,ic P et=some z/\st'=s /\
  ((∃ i e,xl P kt k es=some (some i)/\es[i]? = some e/\r=bif ok then .gj [e.2,.sc (.bool true)] else e.2)\/(xl P kt k es=some none/\r=bif ok then .gj [.sc z,.sc (.bool false)] else .sc z)):=by
 cases x with
 |row=>cases h
 |loop=>cases h
 |map es=>
  refine ⟨es,rfl,?_⟩;simp only [tm] at h;cases hc:ev P (Instr.checkKey es.isEmpty 10000 kt k) with
  |none=>simp [hc,M.fail] at h
  |some u=>
  cases hf:xl P kt k es with
  |none=>simp [hc,hf,M.fail] at h
  |some q=>
  refine ⟨rfl,?_⟩;cases q with
  |none=>
   simp only [hc,hf] at h;cases hz:ic P et with
   |none=>simp [hz,found,M.fail] at h
   |some z=>
    rw [hz] at h;obtain ⟨h1,h2⟩:=c9 h;exact ⟨z,rfl,h2,.inr ⟨rfl,h1⟩⟩
  |some i=>
   simp only [hc,hf] at h;cases he:es[i]? with
   |none=>simp [he,M.fail] at h
   |some e=>
   rw [he] at h;cases hz:ic P et with
   |none=>simp [hz,found,M.fail] at h
   |some z=>
    rw [hz] at h;obtain ⟨h1,h2⟩:=c9 h;exact ⟨z,rfl,h2,.inl ⟨i,e,rfl,he,h1⟩⟩
theorem aIa {g w a v} {b:Bool} (h:Rel g w a v):Rel g w (.gj [a,.sc (.bool b)]) (.tuple #[v,.bool b]):=
 .gj _ _ rfl (fun i x y h1 h2=>by
  cases i with
  |zero=>simp at h1 h2;subst h1 h2;exact h
  |succ i=>cases i with
   |zero=>simp at h1 h2;subst h1 h2;exact .sc _
   |succ i=>simp at h1)
theorem aor {P:Program} {g st st' w} {t:TypeId} {x ix r:AV} {v k:Value} {ok:Bool} (aB:Ok g st.h w) (hx:Rel g w x v) (hk:Rel g w ix k) (h:Fy P t x ix ok st=some (r,st')) :
 dw P g st w (Instr.lookup t v k ok) r st':=by
 unfold Fy at h;cases hu:P.underlying t with
 |none=>simp [hu,M.fail] at h
 |some d=>
 rw [hu] at h;cases d with
 |map kt et=>
  cases x with
  |mp id=>
   cases gJ:ix.jr with
   |none=>simp [gJ,M.fail] at h
   |some kv=>
   simp only [gJ] at h;have:=hk.exact gJ;subst this;obtain ⟨y,s1,h1,h2⟩:=bind_some h;obtain ⟨hy,hh,hn⟩:=jz h1;obtain ⟨es,rfl,hc,z,hz,rfl,hr⟩:=ag9 h2;cases hx with
   |mp _ b base hi=>
   obtain ⟨b',base',hi',_,hrel⟩:=aB.obj id _ hy;rw [hi] at hi';cases hi';obtain ⟨_,ms,clock,m1,m2⟩:=hrel;have hck:=G3 _ _ w hc;rw [<- isEmpty_eq m2.len] at hck;rcases hr with ⟨i,e,hf,he,rfl⟩|⟨hf,rfl⟩
   ·rcases Fz m2 hf with ⟨h3,_⟩|⟨i',j,e',m,l,h3,h4,h5,h6,_,h7,h8,_⟩
    ·cases h3
    ·cases h3;rw [he] at h4;cases h4;cases ok with
     |true=>exact dw.still aB hh (by simp [Instr.lookup,run_underlying hu,D9 m1,hck,h6]) (aIa (h8 _ _ _ he h7).2)
     |false=>exact dw.still aB hh (by simp [Instr.lookup,run_underlying hu,D9 m1,hck,h6]) (h8 _ _ _ he h7).2
   ·rcases Fz m2 hf with ⟨_,h3⟩|⟨i',j,e',m,l,h3,_⟩
    ·cases ok with
     |true=>exact dw.still aB hh (by simp [Instr.lookup,run_underlying hu,D9 m1,hck,h3,oo hz]) (aIa (.sc z))
     |false=>exact dw.still aB hh (by simp [Instr.lookup,run_underlying hu,D9 m1,hck,h3,oo hz]) (.sc z)
    ·cases h3
  |_=>cases h
 |_=>cases h
theorem Lu {α:Type} (l:List α) (i:Nat) (x : α) (hi:i<l.length) (j:Nat):(setAt l i x)[j]? = if j=i then some x else l[j]? := by
 unfold setAt;have hl:(l.take i).length=i:=by simp;omega
 by_cases h1:j<i
 ·rw [zzi zO,zyg,if_pos h1,if_neg zO]
 ·rw [zzd zO,hl];by_cases h2:j=i
  ·subst h2;simp
  ·rw [if_neg h2,show j - i=(j - i - 1)+1 from by omega,List.getElem?_cons_succ,zz6]
   congr 1;omega
theorem Ju {α:Type} (l:List α) (i:Nat) (x : α) (hi:i<l.length):(setAt l i x).length=l.length:=by unfold setAt;simp;omega
theorem agu {P:Program} {id:Nat} {kt:TypeId} {key:Value} {v:AV} {x:bk} {s st':St} {r:AV} (h:Dg P id kt key v x s=some (r,st')) :
 ∃ es,x = .map es/\ev P (Instr.checkKey false 10000 kt key)=some ()/\r = .sc undef /\
  (
   (∃ i e bR u,xl P kt key es=some (some i)/\es[i]? = some e/\ev P (Instr.keyThatStays e.1 key)=some bR/\stays es (setAt es i (bR,v))=true/\ki id (.map (setAt es i (bR,v))) s=some (u,st')) \/
   (∃ u,xl P kt key es=some none/\stays es (es++[(key,v)])=true/\ki id (.map (es++[(key,v)])) s=some (u,st'))):=by
 cases x with
 |row=>cases h
 |loop=>cases h
 |map es=>
  refine ⟨es,rfl,?_⟩;simp only [Dg] at h;cases hc:ev P (Instr.checkKey false 10000 kt key) with
  |none=>simp [hc,M.fail] at h
  |some u=>
  cases hf:xl P kt key es with
  |none=>simp [hc,hf,M.fail] at h
  |some q=>
  refine ⟨rfl,?_⟩;cases q with
  |none=>
   simp only [hc,hf] at h;rcases db h with ⟨hs,h⟩|⟨_,h⟩
   ·obtain ⟨u,s1,h1,h2⟩:=bind_some h;obtain ⟨rfl,rfl⟩:=c9 h2;exact ⟨rfl,.inr ⟨u,rfl,hs,h1⟩⟩
   ·cases h
  |some i=>
   simp only [hc,hf] at h;cases he:es[i]? with
   |none=>simp [he,M.fail] at h
   |some e=>
   simp only [he] at h;cases hk:ev P (Instr.keyThatStays e.1 key) with
   |none=>simp [hk,M.fail] at h
   |some bR=>
   simp only [hk] at h;rcases db h with ⟨hs,h⟩|⟨_,h⟩
   ·obtain ⟨u,s1,h1,h2⟩:=bind_some h;obtain ⟨rfl,rfl⟩:=c9 h2;exact ⟨rfl,.inl ⟨i,e,bR,u,rfl,he,hk,hs,h1⟩⟩
   ·cases h
theorem akz {L:List MapEntry} (hb:(L.map (·.born)).Nodup) {i j:Nat} {m:MapEntry} (hi:L[i]? = some m) (hj:L[j]? = some m):i=j:=by
 have key:∀ i j:Nat,i<j->L[i]? = some m->L[j]? = some m->False:=by intro i j cJ hi hj;obtain ⟨h1,e1⟩:=zg.1 hi;obtain ⟨h2,e2⟩:=zg.1 hj;have:=List.pairwise_iff_getElem.1 hb i j (by simpa using h1) (by simpa using h2) cJ;simp only [List.getElem_map,e1,e2] at this;exact this rfl
 rcases Nat.lt_trichotomy i j with q|q|q
 ·exact (key i j q hi hj).elim
 ·exact q
 ·exact (key j i q hj hi).elim
theorem Ix {α:Type} {l:List α} {i:Nat} {m : α} (h:l[i]? = some m):l.Perm (m::(l.take i++l.drop (i+1)))/\∀ m',(setAt l i m').Perm (m'::(l.take i++l.drop (i+1))):=by
 obtain ⟨hi,rfl⟩:=zg.1 h;refine ⟨?_,fun m'=>List.perm_middle⟩;have:l=l.take i++l[i]::l.drop (i+1):=by rw [<- zzs hi,zzm]
 exact (List.Perm.of_eq this).trans List.perm_middle
theorem akt {α:Type} {l k:List α} (h:l.Perm k) {i j:Nat} {m : α} (hi:l[i]? = some m) (hj:k[j]? = some m):(l.take i++l.drop (i+1)).Perm (k.take j++k.drop (j+1)):=
 List.Perm.cons_inv (((Ix hi).1.symm.trans h).trans (Ix hj).1)
theorem as7 {α:Type} {l k:List α} (h:l.Perm k) {i j:Nat} {m m' : α} (hi:l[i]? = some m) (hj:k[j]? = some m):(setAt l i m').Perm (setAt k j m'):=
 (((Ix hi).2 m').trans ((akt h hi hj).cons m')).trans ((Ix hj).2 m').symm
theorem ab7 {α:Type} (l:List α) (i:Nat) (hi:i<l.length) (j:Nat):(l.take i++l.drop (i+1))[j]? = if j<i then l[j]? else l[j+1]? := by
 have hl:(l.take i).length=i:=by simp;omega
 by_cases h1:j<i
 ·rw [if_pos h1,zzi zO,zyg,if_pos h1]
 ·rw [if_neg h1,zzd zO,hl,zz6]
  congr 1;omega
theorem V6 {P:Program} {g st st' w} {t:TypeId} {m k x r:AV} {mv kv xv:Value} (aB:Ok g st.h w) (hm:Rel g w m mv) (hk:Rel g w k kv) (hx:Rel g w x xv) (h:Gf P t m k x st=some (r,st')) :
 ∃ w' g',(Instr.mapUpdate t mv kv xv).run P w = .ok () w'/\Step g st.h w st.nx st'.nx g' st'.h w'/\Ok g' st'.h w'/\r = .sc undef:=by
 unfold Gf at h;cases hu:P.underlying t with
 |none=>simp [hu,M.fail] at h
 |some d=>
 rw [hu] at h;cases d with
 |map kt et=>
  cases m with
  |mp id=>
   cases gJ:k.jr with
   |none=>simp [gJ,M.fail] at h
   |some key=>
   simp only [gJ] at h;have:=hk.exact gJ;subst this;obtain ⟨y,s1,h1,h2⟩:=bind_some h;obtain ⟨hy,hh,hn⟩:=jz h1;obtain ⟨es,rfl,hc,rfl,hr⟩:=agu h2;cases hm with
   |mp _ b base hi=>
   obtain ⟨b',base',hi',_,hrel⟩:=aB.obj id _ hy;rw [hi] at hi';cases hi';obtain ⟨hb0,ms,clock,m1,m2⟩:=hrel;have hck:=G3 _ _ w hc;rcases hr with ⟨i,e,bR,u,hf,he,zP,iA,hs⟩|⟨u,hf,iA,hs⟩
   ·rcases Fz m2 hf with ⟨h3,_⟩|⟨i',j,e',mm,l,h3,h4,h5,h6,p1,p2,p3,p4⟩
    ·cases h3
    ·cases h3;rw [he] at h4;cases h4;have cA:i<es.length:=(zg.1 he).1;have aY:l.length=es.length:=by rw [p1.length_eq,<- m2.len];simp
     have hkey:=(p3 _ _ _ he p2).1;have hst:=G3 _ _ w zP;rw [<- hkey] at hst;have kV:ms.toList[j]? = some mm:=by simpa using h5
     have fW:=(zg.1 kV).1;have cS:(ms.modify j fun e=>{ e with key:=bR,val:=xv }).toList=setAt ms.toList j { mm with key:=bR,val:=xv }:=by
      apply List.ext_getElem?;intro n;rw [zz2,Array.getElem?_modify,Lu _ _ _ fW,zz2];by_cases hn:n=j
      ·subst hn;simp [h5]
      ·rw [if_neg hn,if_neg (Ne.symm hn)]
     have kT:(ms.modify j fun e=>{ e with key:=bR,val:=xv }).toList.map (·.born)=ms.toList.map (·.born):=by
      apply List.ext_getElem?;intro n;rw [cS,zzj,zzj,Lu _ _ _ fW];by_cases hn:n=j
      ·subst hn;rw [if_pos rfl,kV];rfl
      ·rw [if_neg hn]
     have hrel':wk g w (setAt es i (bR,x)) (ms.modify j fun e=>{ e with key:=bR,val:=xv }) clock:=by
      have hp:=as7 (m':={ mm with key:=bR,val:=xv }) p1 p2 kV;refine ⟨by rw [Ju _ _ _ cA];simpa using m2.len,by rw [kT];exact m2.born,fun m hm=>?_,setAt l i { mm with key:=bR,val:=xv },by rw [cS];exact hp,fun n e m hj hm=>?_,?_⟩
      ·have:m.born ∈ ms.toList.map (·.born):=by rw [<- kT];exact List.mem_map_of_mem hm
       obtain ⟨m0,q1,q2⟩:=zyl.1 this;rw [<- q2];exact m2.Vu m0 q1
      ·rw [Lu _ _ _ cA] at hj;rw [Lu _ _ _ zO] at hm;by_cases pM:n=i
       ·rw [if_pos pM] at hj hm;cases hj;cases hm;exact ⟨rfl,hx⟩
       ·rw [if_neg pM] at hj hm;exact p3 n e m hj hm
      ·refine Om (k:=ms.toList) (l:=l) (fun e=>?_) (p4.imp (·.1) (fun h=>h)) iA (by rw [cS];exact hp) (by rw [Ju _ _ _ zO,Ju _ _ _ cA,aY]);rw [cS];subst e;rw [akz m2.born p2 kV]
     obtain ⟨q1,q2,q3⟩:=Ub (P:=P) (ms':=ms.modify j fun e=>{ e with key:=bR,val:=xv }) (c':=clock) aB hy hi hb0 m1 hrel' ⟨hh,hn⟩ hs;refine ⟨_,g,?_,q2,q3,rfl⟩;simp [Instr.mapUpdate,run_underlying hu,D9 m1,hck,h6,h5,hst,q1]
   ·rcases Fz m2 hf with ⟨_,h3⟩|⟨i',j,e',mm,l,h3,_⟩
    ·obtain ⟨l,p1,p2,p3⟩:=m2.perm;have aY:l.length=es.length:=by rw [p1.length_eq,<- m2.len];simp
     have hrel':wk g w (es++[(kv,x)]) (ms.push { key:=kv,val:=xv,born:=clock }) (clock+1):=by
      have hp:(l++[({ key:=kv,val:=xv,born:=clock }:MapEntry)]).Perm (ms.push { key:=kv,val:=xv,born:=clock }).toList:=by rw [Array.toList_push];exact p1.append_right _
      refine ⟨by simp [m2.len],?_,fun m hm=>?_,_,hp,fun n e m hj hm=>?_,?_⟩
      ·rw [Array.toList_push,zzw,List.nodup_append];refine ⟨m2.born,by simp,fun b hb b' hb'=>?_⟩;obtain ⟨m,q1,rfl⟩:=zyl.1 hb;simp at hb';have:=m2.Vu m q1;omega
      ·rw [Array.toList_push] at hm;rcases zzq.1 hm with hm|hm
       ·exact Nat.lt_succ_of_lt (m2.Vu m hm)
       ·simp at hm;subst hm;exact Nat.lt_succ_self _
      ·by_cases fW:n<es.length
       ·rw [zzi fW] at hj;rw [zzi zO] at hm;exact p2 n e m hj hm
       ·rw [zzd zO] at hj hm;have kP:n=es.length:=by
         have:=(zg.1 hj).1;simp at this;omega
        subst kP;rw [aY] at hm;simp at hj hm;subst hj hm;exact ⟨rfl,hx⟩
      ·exact Om (k:=ms.toList) (l:=l) (fun e=>by rw [Array.toList_push,e]) p3 iA hp (by simp [aY])
     obtain ⟨q1,q2,q3⟩:=Ub (P:=P) (ms':=ms.push { key:=kv,val:=xv,born:=clock }) (c':=clock+1) aB hy hi hb0 m1 hrel' ⟨hh,hn⟩ hs;refine ⟨_,g,?_,q2,q3,rfl⟩;simp [Instr.mapUpdate,run_underlying hu,D9 m1,hck,h3,q1]
    ·cases h3
  |_=>cases h
 |_=>cases h
theorem agz {P:Program} {id:Nat} {kt:TypeId} {key:Value} {x:bk} {s st':St} {r:AV} (h:Qs P id kt key x s=some (r,st')) :
 ∃ es,x = .map es/\ev P (Instr.checkKey es.isEmpty 10000 kt key)=some ()/\r = .sc (.tuple #[]) /\
  (
   (∃ i u,xl P kt key es=some (some i)/\stays es (es.take i++es.drop (i+1))=true/\ki id (.map (es.take i++es.drop (i+1))) s=some (u,st')) \/
   (∃ u,xl P kt key es=some none/\ki id (.map es) s=some (u,st'))):=by
 cases x with
 |row=>cases h
 |loop=>cases h
 |map es=>
  refine ⟨es,rfl,?_⟩;simp only [Qs] at h;cases hc:ev P (Instr.checkKey es.isEmpty 10000 kt key) with
  |none=>simp [hc,M.fail] at h
  |some u=>
  cases hf:xl P kt key es with
  |none=>simp [hc,hf,M.fail] at h
  |some q=>
  refine ⟨rfl,?_⟩;cases q with
  |none=>
   simp only [hc,hf] at h;obtain ⟨u,s1,h1,h2⟩:=bind_some h;obtain ⟨rfl,rfl⟩:=c9 h2;exact ⟨rfl,.inr ⟨u,rfl,h1⟩⟩
  |some i=>
   simp only [hc,hf] at h;rcases db h with ⟨hs,h⟩|⟨_,h⟩
   ·obtain ⟨u,s1,h1,h2⟩:=bind_some h;obtain ⟨rfl,rfl⟩:=c9 h2;exact ⟨rfl,.inl ⟨i,u,rfl,hs,h1⟩⟩
   ·cases h
theorem aod {P:Program} {g st st' w} {ts:Array TypeId} {ty:TypeId} {m k r:AV} {mv kv:Value} (aB:Ok g st.h w) (hm:Rel g w m mv) (hk:Rel g w k kv) (h:Xj P ((ts[0]?).bind P.underlying) m k st=some (r,st')) :
 dw P g st w (Builtin.delete_ ts ty #[mv,kv]) r st':=by
 unfold Xj at h;cases h0:ts[0]? with
 |none=>simp [h0,M.fail] at h
 |some t=>
 rw [h0] at h;simp only [Option.bind_some] at h;cases hu:P.underlying t with
 |none=>simp [hu,M.fail] at h
 |some d=>
 rw [hu] at h;cases d with
 |map kt et=>
  cases m with
  |mp id=>
   cases gJ:k.jr with
   |none=>simp [gJ,M.fail] at h
   |some key=>
   simp only [gJ] at h;have:=hk.exact gJ;subst this;obtain ⟨y,s1,h1,h2⟩:=bind_some h;obtain ⟨hy,hh,hn⟩:=jz h1;obtain ⟨es,rfl,hc,rfl,hr⟩:=agz h2;cases hm with
   |mp _ b base hi=>
   obtain ⟨b',base',hi',_,hrel⟩:=aB.obj id _ hy;rw [hi] at hi';cases hi';obtain ⟨hb0,ms,clock,m1,m2⟩:=hrel;have hck:=G3 _ _ w hc;rw [<- isEmpty_eq m2.len] at hck;rcases hr with ⟨i,u,hf,iA,hs⟩|⟨u,hf,hs⟩
   ·rcases Fz m2 hf with ⟨h3,_⟩|⟨i',j,e',mm,l,h3,h4,h5,h6,p1,p2,p3,p4⟩
    ·cases h3
    ·cases h3;have cA:i<es.length:=(zg.1 h4).1;have aY:l.length=es.length:=by rw [p1.length_eq,<- m2.len];simp
     have kV:ms.toList[j]? = some mm:=by simpa using h5
     have fW:=(zg.1 kV).1;have nE:j<ms.size:=by simpa using fW
     have hE:ms.eraseIdxIfInBounds j=ms.eraseIdx j nE:=by simp [Array.eraseIdxIfInBounds,nE]
     have cS:(ms.eraseIdxIfInBounds j).toList=ms.toList.take j++ms.toList.drop (j+1):=by apply List.ext_getElem?;intro n;rw [hE,zz2,Array.getElem?_eraseIdx,ab7 _ _ fW,zz2,zz2]
     have bA:(ms.eraseIdxIfInBounds j).toList.Sublist ms.toList:=by
      rw [cS];have:=(List.drop_sublist_drop_left ms.toList (show j<=j+1 by omega)).append_left (ms.toList.take j)
      rwa [zzm] at this
     have hrel':wk g w (es.take i++es.drop (i+1)) (ms.eraseIdxIfInBounds j) clock:=by
      have hp:=akt p1 p2 kV;refine ⟨?_,(bA.map _).nodup m2.born,fun m hm=>m2.Vu m (bA.subset hm),l.take i++l.drop (i+1),by rw [cS];exact hp,fun n e m hj hm=>?_,?_⟩
      ·have:=m2.len;rw [hE,Array.size_eraseIdx];simp;omega
      ·rw [ab7 _ _ cA] at hj;rw [ab7 _ _ zO] at hm;by_cases pM:n<i
       ·rw [if_pos pM] at hj hm;exact p3 n e m hj hm
       ·rw [if_neg pM] at hj hm;exact p3 (n+1) e m hj hm
      ·refine Om (k:=ms.toList) (l:=l) (fun e=>?_) (p4.imp (·.1) (fun h=>h)) iA (by rw [cS];exact hp) (by simp [aY]);rw [cS];subst e;rw [akz m2.born p2 kV]
     obtain ⟨q1,q2,q3⟩:=Ub (P:=P) (ms':=ms.eraseIdxIfInBounds j) (c':=clock) aB hy hi hb0 m1 hrel' ⟨hh,hn⟩ hs;refine ⟨_,_,g,?_,q2,q3,.sc _⟩;simp [Builtin.delete_,h0,run_underlying hu,D9 m1,hck,h6,q1]
   ·rcases Fz m2 hf with ⟨_,h3⟩|⟨i',j,e',mm,l,h3,_⟩
    ·obtain ⟨q1,q2,q3⟩:=Ub (P:=P) (ms':=ms) (c':=clock) aB hy hi hb0 m1 m2 ⟨hh,hn⟩ hs;refine ⟨_,_,g,?_,q2,q3,.sc _⟩;simp [Builtin.delete_,h0,run_underlying hu,D9 m1,hck,h3,q1]
    ·cases h3
  |_=>cases h
 |_=>cases h
theorem uq.unit {P g st w} [KP P] {s:Sem Unit} {r st'} (h:∃ w' g',s.run P w = .ok () w'/\Step g st.h w st.nx st'.nx g' st'.h w'/\Ok g' st'.h w'/\r = .sc undef):uq P g st w (do s;pure .skip) r st':=by obtain ⟨w',g',h1,h2,h3,h4⟩:=h;exact ⟨.skip,w',g',by simp [h1],h2,h3,.inr ⟨rfl,h4⟩⟩
theorem qf.list {g w ρa ρ} (hρ:qf g w ρa ρ) (l:List Operand):bz g w (l.map ρa) (l.map ρ):=
 ⟨by simp,fun i a v h1 h2=>by
  rw [zzj] at h1 h2;cases hl:l[i]? with
  |none=>rw [hl] at h1;cases h1
  |some x=>rw [hl] at h1 h2;simp at h1 h2;subst h1 h2;exact hρ x⟩
theorem al6 {g w ρa ρ} (hρ:qf g w ρa ρ) (parts:Array (Nat × Operand)) :
 (parts.toList.map fun p=>(p.1,ρa p.2)).length=(parts.map fun (i,x)=>(i,ρ x)).toList.length /\
 ∀ (i:Nat) p q,(parts.toList.map fun p=>(p.1,ρa p.2))[i]? = some p->(parts.map fun (i,x)=>(i,ρ x)).toList[i]? = some q->p.1=q.1/\Rel g w p.2 q.2:=by
 refine ⟨by simp,fun i p q h1 h2=>?_⟩;rw [zzj] at h1;rw [Array.toList_map,zzj] at h2;cases hl:parts.toList[i]? with
 |none=>rw [hl] at h1;cases h1
 |some x=>rw [hl] at h1 h2;simp at h1 h2;subst h1 h2;exact ⟨rfl,hρ x.2⟩
theorem agr {g w ρa ρ} (hρ:qf g w ρa ρ) {args:Array Operand} (h:oc ρa args.toList=true):args.map (fun z=>((ρa z).jr).getD undef)=args.map ρ:=by apply Array.ext';rw [Array.toList_map,Array.toList_map];exact List.map_congr_left fun x hx=>ajk hρ h x hx
theorem aja {P:Program} [KP P] {g:Gh} {st st':St} {w:World} {ρa:Operand->AV} {ρ:Operand->Value} {o:Oper} {r:AV} {c:Call} {b:Builtin} (hc:c.callee = .builtin b) (ho:o.op = .call c) (aB:Ok g st.h w) (hf:qh g st st') (hρ:qf g w ρa ρ)
 (h:Rt P ρa o b c.args.toList c.argTypes st=some (r,st')):uq P g st w (execOp ρ o) r st':=by
 have hex:∀ ρ:Operand->Value,execOp ρ o=builtin b c.argTypes o.type (c.args.map fun|.const _=>true|_=>false) (c.args.map ρ):=by intro ρ;simp [execOp,ho,resolve,hc,invoke];rfl
 have aX:∀ l:List Operand,c.args.toList=l->c.args.map ρ=(l.map ρ).toArray:=by intro l hl;apply Array.ext';rw [Array.toList_map,hl]
 have eC:mo P ρa o c.args.toList st=some (r,st')->uq P g st w (execOp ρ o) r st':=by
  intro h;by_cases he:oc ρa c.args.toList=true
  ·exact Ai aB hρ (.inl (by rw [hex,hex,agr hρ he])) h
  ·exact Ai aB hρ (.inr (by simpa using he)) h
 have one:∀ x,c.args.toList=[x]->c.args.map ρ = #[ρ x]:=fun x hx=>aX _ hx
 have two:∀ x y,c.args.toList=[x,y]->c.args.map ρ = #[ρ x,ρ y]:=fun x y hx=>aX _ hx
 generalize eA:c.args.toList=al at h;unfold Rt at h
 split at h
 ·rename_i x;rw [hex,one _ eA];exact dw.value (P:=P) (aCw aB (hρ x) h)
 ·rename_i s x;rw [hex,two _ _ eA];exact dw.value (P:=P) (an7 aB hf (hρ s) (hρ x) h)
 ·rename_i d x;rw [hex,two _ _ eA];exact dw.value (P:=P) (aAc aB (hρ d) (hρ x) h)
 ·rename_i m k;rw [hex,two _ _ eA];exact dw.value (P:=P) (aod aB (hρ m) (hρ k) h)
 ·rename_i x;rw [hex,one _ eA];exact dw.value (P:=P) (aB0 aB (hρ x) h)
 ·rename_i x;rw [hex,one _ eA];exact dw.value (P:=P) (ack aB (hρ x) h)
 ·rename_i x y;rw [hex,two _ _ eA];exact dw.value (P:=P) (U4 aB (hρ x) (hρ y) h)
 ·rw [<- eA] at h;exact eC h
 ·rw [<- eA] at h;exact eC h
 ·cases h
theorem alq {P:Program} [KP P] {g:Gh} {st st':St} {w:World} {ρa:Operand->AV} {ρ:Operand->Value} {o:Oper} {r:AV} (aB:Ok g st.h w) (hf:qh g st st') (hρ:qf g w ρa ρ)
 (h:E9 P o ρa st=some (r,st')):uq P g st w (execOp ρ o) r st':=by
 unfold E9 at h;cases ho:o.op with
 |move x=>
  rw [ho] at h;obtain ⟨rfl,rfl⟩:=c9 h;exact ⟨_,_,g,by simp [execOp,ho],.refl _ _ _ _ _,aB,.inl ⟨_,rfl,hρ x⟩⟩
 |assign x=>
  rw [ho] at h;obtain ⟨rfl,rfl⟩:=c9 h;exact ⟨_,_,g,by simp [execOp,ho],.refl _ _ _ _ _,aB,.inl ⟨_,rfl,hρ x⟩⟩
 |load t a=>rw [ho] at h;have:=dw.value (P:=P) (awj aB (hρ a) h);simpa [execOp,ho] using this
 |fieldAddr s x f=>rw [ho] at h;have:=dw.value (P:=P) (acg aB (hρ x) h);simpa [execOp,ho] using this
 |binOp op t x y ck=>
  rw [ho] at h;exact aBi aB hρ (by simp [execOp,ho]) (fun h1 h2=>by simp [execOp,ho,Ep hρ h1,Ep hρ h2]) h
 |pick c a b=>rw [ho] at h;have:=dw.value (P:=P) (awa aB (hρ c) (hρ a) (hρ b) h);simpa [execOp,ho] using this
 |store t a x=>rw [ho] at h;have:=uq.unit (P:=P) (aso aB (hρ a) (hρ x) h);simpa [execOp,ho] using this
 |extract t ix=>rw [ho] at h;have:=dw.value (P:=P) (ahr aB (hρ t) h);simpa [execOp,ho] using this
 |indexAddr t x ix=>rw [ho] at h;have:=dw.value (P:=P) (aby aB (hρ x) (hρ ix) h);simpa [execOp,ho] using this
 |nilCheck x=>rw [ho] at h;exact agv aB hρ ho h
 |alloc t=>rw [ho] at h;have:=dw.value (P:=P) (as0 aB hf h);simpa [execOp,ho] using this
 |box t x=>rw [ho] at h;have:=dw.value (P:=P) (alb aB hf (hρ x) h);simpa [execOp,ho] using this
 |build t parts=>rw [ho] at h;have hp:=al6 hρ parts;have:=dw.value (P:=P) (as2 aB hp.1 hp.2 h);simpa [execOp,ho] using this
 |buildSlice t len parts=>rw [ho] at h;have hp:=al6 hρ parts;have:=dw.value (P:=P) (Zo aB hf hp.1 hp.2 h);simpa [execOp,ho] using this
 |makeSlice t l c=>rw [ho] at h;have:=dw.value (P:=P) (abm aB hf (hρ l) (hρ c) h);simpa [execOp,ho] using this
 |makeMap t ro=>rw [ho] at h;have:=dw.value (P:=P) (ami (t:=t) (rv:=ro.map ρ) (fun e=>by rw [e];rfl) aB hf h);simpa [execOp,ho] using this
 |makeFunc f first captured=>
  rw [ho] at h;obtain ⟨rfl,rfl⟩:=c9 h;have h1:=hρ.list first.toList
  have h2:=hρ.list captured.toList;have:=dw.value (P:=P) (dw.still aB rfl (s:=Instr.makeFunc f (first.map ρ) (captured.map ρ)) rfl
   (Rel.fn f (first.toList.map ρa) (captured.toList.map ρa) (first.map ρ) (captured.map ρ) (by simp) (fun i a v q1 q2=>h1.2 i a v q1 (by rw [<- Array.toList_map,zz2];exact q2)) (by simp) (fun i a v q1 q2=>h2.2 i a v q1 (by rw [<- Array.toList_map,zz2];exact q2))))
  simpa [execOp,ho] using this
 |convert src dst x=>rw [ho] at h;exact akr aB hf hρ ho h
 |makeInterface t x=>rw [ho] at h;have:=dw.value (P:=P) (Ru aB (hρ x) h);simpa [execOp,ho] using this
 |field s x f=>rw [ho] at h;have:=dw.value (P:=P) (avo aB (hρ x) h);simpa [execOp,ho] using this
 |index t x ix=>rw [ho] at h;exact auj aB hρ ho h
 |slice t x lo hi mx=>
  rw [ho] at h;have hex:∀ ρ:Operand->Value,execOp ρ o=(do pure (.value (<- Instr.sliceAt t (ρ x) (lo.map ρ) (hi.map ρ) (mx.map ρ)))):=by intro ρ;simp [execOp,ho]
  rw [hex];refine dw.value (P:=P) (as3 aB hρ ho (fun r' hp=>?_) h);by_cases he:oc ρa (.slice t x lo hi mx:Op).operands.toList=true
  ·have hx:=ajk hρ he;have hmem:∀ y,(y=x\/lo=some y\/hi=some y\/mx=some y)->((ρa y).jr).getD undef = ρ y:=fun y hy=>hx y (by
    rcases hy with rfl|rfl|rfl|rfl<;>simp [Op.operands])
   have cQ:∀ q:Option Operand,(∀ y,q=some y->((ρa y).jr).getD undef = ρ y)->q.map (fun z=>((ρa z).jr).getD undef)=q.map ρ:=by
    intro q hq;cases q with
    |none=>rfl
    |some y=>simp [hq y rfl]
   have heq:execOp (fun z=>((ρa z).jr).getD undef) o=execOp ρ o:=by rw [hex,hex,hmem x (.inl rfl),cQ lo (fun y e=>hmem y (.inr (.inl e))),cQ hi (fun y e=>hmem y (.inr (.inr (.inl e)))),cQ mx (fun y e=>hmem y (.inr (.inr (.inr e))))]
   obtain ⟨rfl,h1⟩:=afj (P:=P) hρ (.inl heq) hp;rw [hex] at h1;cases hs:(Instr.sliceAt t (ρ x) (lo.map ρ) (hi.map ρ) (mx.map ρ)).run P w with
   |ok v w'=>
    rcases h1 with ⟨u,h2,rfl⟩|⟨h2,_⟩
    ·simp [hs] at h2;obtain ⟨rfl,rfl⟩:=h2;exact dw.still aB rfl hs (.sc _)
    ·simp [hs] at h2
   |_=>rcases h1 with ⟨u,h2,_⟩|⟨h2,_⟩<;>simp [hs] at h2
  ·rw [mo,show oc ρa (.slice t x lo hi mx:Op).operands.toList=false from by simpa using he] at hp;cases hp
 |lookup t x ix ok=>rw [ho] at h;have:=dw.value (P:=P) (aor aB (hρ x) (hρ ix) h);simpa [execOp,ho] using this
 |mapUpdate t m k x=>rw [ho] at h;have:=uq.unit (P:=P) (V6 aB (hρ m) (hρ k) (hρ x) h);simpa [execOp,ho] using this
 |insert t m k x=>rw [ho] at h;have:=uq.unit (P:=P) (V6 aB (hρ m) (hρ k) (hρ x) h);simpa [execOp,ho] using this
 |typeAssert x xT asserted ok=>rw [ho] at h;exact Y8 aB hρ ho h
 |unOp op t x=>
  rw [ho] at h;by_cases he:oc ρa [x]=true
  ·refine Ai aB hρ (.inl ?_) h;simp only [oc,List.all_cons,List.all_nil,Bool.and_true] at he;simp [execOp,ho,Ep hρ he]
  ·exact Ai aB hρ (.inr (by simpa using he)) h
 |call c=>
  rw [ho] at h;obtain ⟨callee,args,argTypes⟩:=c;cases callee with
  |builtin b=>exact aja rfl ho aB hf hρ h
  |_=>cases h
 |_=>rw [ho] at h;cases h
def fw (ro:Option Nat):Fence:={ Fence.wide with round:=ro }
theorem P6 {ro ro':Option Nat} {n m:Nat} {P:Program} [KP P] {f:FuncId} {args:Array Value} {w:World} {R:Ending->World->Prop} (h:CallsIn (fw ro) n P f args w R):CallsIn (fw ro') m P f args w R:=
 ⟨trivial,fun cs _=>h.2 cs (fun d hd=>by cases hd)⟩
theorem ss {ro:Option Nat} {n:Nat} {P:Program} [KP P] {f:FuncId} {args:Array Value} {w:World} {R:Ending->World->Prop} (h:Calls P f args w R):CallsIn (fw ro) n P f args w R:=
 P6 (ro:=none) (n:=0) (callsIn_wide.2 h)
theorem yy {ro:Option Nat} {n:Nat} {P:Program} [KP P] {f:FuncId} {args:Array Value} {w:World} {R:Ending->World->Prop} (h:CallsIn (fw ro) n P f args w R):Calls P f args w R:=
 (callsIn_wide (n:=0)).1 (P6 (ro':=none) h)
theorem put_defers (a:Act) (dst:Option Tmp) (v:Value):(a.put dst v).defers=a.defers:=by cases dst<;>rfl
structure Stp (g:Gh) (st:St) (w:World) (g':Gh) (st':St) (w':World):Prop where
 le:st.nx<=st'.nx
 step:Step g st.h w st.nx st'.nx g' st'.h w'
theorem wy {α:Type} {m:M α} {s:St} {r : α × St} (h:mono m s=some r):m s=some r/\s.nx<=r.2.nx:=by
 unfold mono at h;cases hm:m s with
 |none=>rw [hm] at h;cases h
 |some p=>
  obtain ⟨a,s'⟩:=p;rw [hm] at h;simp only at h;cases hb:Nat.ble s.nx s'.nx with
  |false=>rw [hb] at h;cases h
  |true=>rw [hb] at h;cases h;exact ⟨rfl,zB hb⟩
theorem avl {P:Program} [KP P] {g st st' w t a v r ad} (aB:Ok g st.h w) (ha:Rel g w a v) (h:wx P t a st=some (r,st')) (hv:v = .pointer (some ad)):∃ u,(loadVar t ad).run P w = .ok u w/\Rel g w r u:=by
 unfold wx at h;cases ha with
 |ptr o off b base hi=>
  cases hv;obtain ⟨x,s1,hx,h⟩:=bind_some h;obtain ⟨hx,hh,hn⟩:=jz hx;obtain ⟨b',base',hi',_,hrel⟩:=aB.obj o x hx;rw [hi] at hi';cases hi';cases x with
  |row cells k s et=>
   obtain ⟨iJ,_⟩:=v5 h;obtain ⟨cs,fr,h1,h2,h3,_⟩:=hrel;exact Ii (P:=P) (g:=g) (w:=w) (b:=b) (off:=base+off) (fun j a hj=>by rw [zz6] at hj;obtain ⟨c,hc,hr⟩:=h3 _ a hj;exact ⟨c,by rw [kz h1,zym];exact hc,hr⟩) iJ
  |map es=>cases h
  |loop=>cases h
 |ik l b off c hc hr=>
  cases hv;obtain ⟨iJ,e⟩:=v5 h;exact Ii (P:=P) (fun j a hj=>⟨c j,(hc j a hj).2,hr j a hj⟩) iJ
 |_=>exact (ae3 h).elim
def wt (tmps:Array Value) (r:ResultVar):Sem Value:=
 match r with
 |.tmp t=>pure (tmps.getD t undef)
 |.cell a t=>do loadVar t (<- asAddr (tmps.getD a undef))
theorem Y5 (fn:Func) (tmps:Array Value):results fn tmps=(do
 let vs <- fn.results.mapM (wt tmps)
 pure (if h:vs.size=1 then vs[0] else .tuple vs)):=rfl
def ja (g:Gh) (h:Tr bk) (b:Nat):Prop:=∀ o base,(h.get o).isSome=true->g.inj o≠some (b,base)
theorem ja.step {g h w lo hi g' h' w' b} (s:Step g h w lo hi g' h' w') (hb:b<w.heap.size) (hu:ja g h b):ja g' h' b/\w'.heap[b]? = w.heap[b]? :=
 ⟨fun o base ho hj=>by
  rcases s.own o b base ho hj with hge|⟨o',base',cQ,hj'⟩
  ·omega
  ·exact hu o' base' cQ hj',s.frame b hb hu⟩
def mark (b:Nat):Deferred:={ target:=.collected b,args:=#[] }
def Marks (D:List Deferred) (n0:Nat) (h:Tr bk) (g:Gh) (w:World) (ds:List Deferred):Prop:=
 ∃ bs:List Nat,ds=bs.map mark++D/\bs.Nodup/\∀ b ∈ bs,n0<=b/\w.heap[b]? = some (.deferred (some []))/\ja g h b
theorem Marks.nil (n0 h g w):Marks [] n0 h g w []:=⟨[],rfl,List.nodup_nil,fun b hb=>by cases hb⟩
theorem Marks.start (D:List Deferred) (n0 h g w):Marks D n0 h g w D:=⟨[],rfl,List.nodup_nil,fun b hb=>by cases hb⟩
theorem Marks.step {D n0 g h w lo hi g' h' w' ds} (s:Step g h w lo hi g' h' w') (hm:Marks D n0 h g w ds):Marks D n0 h' g' w' ds:=by obtain ⟨bs,h1,h2,h3⟩:=hm;refine ⟨bs,h1,h2,fun b hb=>?_⟩;obtain ⟨q1,q2,q3⟩:=h3 b hb;have:=ja.step s (cd q2) q3;exact ⟨q1,this.2.trans q2,this.1⟩
theorem Ok.Mj {g h w b} {ds ds':Option (List Deferred)} (aB:Ok g h w) (hb:w.heap[b]? = some (.deferred ds)) (hu:ja g h b):Ok g h (j6 w b (.deferred ds'))/\(∀ a v,Rel g w a v->Rel g (j6 w b (.deferred ds')) a v):=by
 have aI:Ext g w g (j6 w b (.deferred ds')):=by
  refine ⟨rfl,fun _ _ h=>h,fun _ _ h=>h,fun c j hj=>?_,fun c cs e fr hc=>?_,fun c l hc=>?_,fun c cs e fr hc _=>gm w (.deferred ds') (by intro e;subst e;rw [hb] at hc;cases hc)⟩
  ·by_cases e:c=b
   ·subst e;simp [World.cell?,kc _ (cd hb),hb]
   ·exact th (gm w (.deferred ds') e)
  ·exact ⟨cs,fr,(gm w (.deferred ds') (by intro e;subst e;rw [hb] at hc;cases hc)).trans hc,rfl⟩
  ·exact ⟨l,(gm w (.deferred ds') (by intro e;subst e;rw [hb] at hc;cases hc)).trans hc⟩
 refine ⟨⟨by rw [pd];exact aB.size,fun o x hx=>?_,aB.sep,fun c j hj=>by rw [pd];exact aB.K c j hj⟩,fun a v h=>h.ext aI⟩;refine (aB.px o x hx).imp id ?_;rintro ⟨c,base,h1,h2,h3⟩;exact ⟨c,base,h1,h2,h3.ext aI (gm w (.deferred ds') (fun e=>hu o base (by rw [hx];rfl) (by rw [<- e];exact h1))) (fun _ h=>h)⟩
theorem Step.aC7 {g0 h0 w0 lo hi g h w b ds'} (lU:Ok g0 h0 w0) (s:Step g0 h0 w0 lo hi g h w) (hb:w0.heap.size<=b):Step g0 h0 w0 lo hi g h (j6 w b (.deferred ds')):=by
 have ne:∀ c,c<w0.heap.size->c≠b:=fun c hc e=>by omega
 refine ⟨⟨s.ext.b0,s.ext.inj,s.ext.K,fun c j hj=>?_,fun c cs e fr hc=>?_,fun c l hc=>?_,fun c cs e fr hc hK=>(gm w _ (ne c (cd hc))).trans (s.ext.whole c cs e fr hc hK)⟩,by rw [pd];exact s.size,s.os,s.tape,s.output,fun c hc hn=>?_,s.fresh,s.own,s.o0⟩
 ·rw [th (gm w _ (ne c (lU.K c j hj)))];exact s.ext.cell c j hj
 ·rw [gm w _ (ne c (cd hc))];exact s.ext.ju c cs e fr hc
 ·rw [gm w _ (ne c (cd hc))];exact s.ext.lp c l hc
 ·rw [gm w _ (ne c hc)];exact s.frame c hc hn
def wg:Ex->Exit
 |.normal=>.normal
 |.exit id=>.exit id
 |.ret=>.ret
theorem ur {P:Program} [KP P] {f:Nat} (h:qk P f=true) (args:Array Value) (w:World):(callFunc f args).run P w = .ok (.enter f args) w:=by
 unfold qk at h;cases hf:P.funcs[f]? with
 |none=>rw [hf] at h;cases h
 |some fn=>
  rw [hf] at h;simp only [zzh,zye] at h;obtain ⟨h1,h2⟩:=h;have hb:¬ fn.body=none:=by intro e;rw [e] at h1;cases h1
  have hn:¬ fn.name = "runtime.NumGoroutine" := by simpa using h2
  simp [callFunc,program,Sem.run,hf,hn,hb]
theorem Kr {o:Oper} {c:Call} (h:o.op = .call c):∀ d,o.op ≠ .defer d:=by intro d e;rw [h] at e;cases e
theorem ll (ro:Option Nat) (P:Program) (o:Oper) (a:Act) (w:World):∀ f,o.about P w a.eval=some f->(fw ro).fn f:=fun _ _=>trivial
theorem Fl {P:Program} [KP P] {o:Oper} {f:Operand} {args:Array Operand} {ts:Array TypeId} {ρ:Operand->Value} {h:Nat} {first captured:Array Value} (ho:o.op = .call { callee:=.value f,args,argTypes:=ts })
 (hf : ρ f = .func (.func h) first captured) (w:World):(execOp ρ o).run P w=(callFunc h (first++args.map ρ++captured)).run P w:=by
 simp [execOp,ho,resolve,hf,Deferred.ofValue,invoke]
variable [TK]
noncomputable section
abbrev SL:=List (Nat × AV)
noncomputable def lk (L:SL) (t:Nat):AV:=List.rec (motive:=fun _=>AV) .bad (fun p _ ih=>Bool.rec (motive:=fun _=>AV) ih p.2 (Nat.beq p.1 t)) L
def eu (L:SL) (x:Operand):AV:=
 Operand.rec (motive:=fun _=>AV) (fun t=>lk L t) (fun v=>.sc v) (fun g=>.sc (.pointer (some ⟨g,0,none⟩))) (fun f=>.sc (.func (.func f) #[] #[])) x
abbrev QL:=Ex->SL->St->Prop
def l8 (d:Option Tmp) (v:AV) (L:SL):SL:=
 match d with
 |none=>L
 |some d=>(d,v)::L
abbrev fp:=List (Nat × Bool × (List AV->M AV))
def fp.find:fp->Nat->Option (Bool × (List AV->M AV))
 | [],_=>none
 |(g,m)::r,f=>bif Nat.beq g f then some m else fp.find r f
def Ay (T:fp) (f:Nat) (args:List AV):M AV:=
 match T.find f with
 |some (_,m)=>mono (m args)
 |none=>.fail
def amk (T:fp) (g:Fn) (args:List AV):M AV:=
 match g with
 |.func g=>Ay T g args
 |_=>.fail
def Bs (T:fp) (f:AV) (args:List AV):M AV:=
 match f with
 |.fn g first captured=>amk T g (first++args++captured)
 |.sc x=>
  match x with
  |.func g first captured=>amk T g (first.toList.map .sc++args++captured.toList.map .sc)
  |_=>.fail
 |_=>.fail
def il (P:Program) (T:fp) (o:Oper) (ρ:Operand->AV):M AV:=
 match o.op with
 |.call { callee:=.value f,args,.. }=>Bs T (ρ f) (args.toList.map ρ)
 |_=>mono (E9 P o ρ)
def Nv (r:Option (AV × St)) (d:Option Tmp) (L:SL) (K:SL->St->Prop):Prop:=
 match r with
 |some (v,st)=>K (l8 d v L) st
 |none=>False
def u9 (a:AV) (x y:Prop):Prop:=
 match a.bool with
 |some v=>(v=true->x)/\(v=false->y)
 |none=>False
def yr (ops:Array Oper) (j:Nat):Nat:=((ops[j]?).bind (·.dst)).getD 0
def K7 (c:Bool) (v:Value):Bool:=
 match v with
 |.bool b=>b == c
 |_=>false
def G1 (a:AV) (c:Bool):Option Bool:=a.exact.map (K7 c)
def Dx (o:Option Bool) (x y:Prop):Prop:=
 match o with
 |some b=>(b=true->x)/\(b=false->y)
 |none=>False
def guarded (ops:Array Oper) (L:SL) (gd:Option (Nat × Bool)) (x y:Prop):Prop:=
 match gd with
 |none=>x
 |some (j,c)=>Dx (G1 (lk L (yr ops j)) c) x y
def Ao (a:AV) (X Y:SL->St->Prop) (L:SL) (st:St):Prop:=u9 a (X L st) (Y L st)
def J7 (a:AV) (c:Bool) (X Y:SL->St->Prop) (L:SL) (st:St):Prop:=Dx (G1 a c) (X L st) (Y L st)
def Cu (ops:Array Oper) (gd:Option (Nat × Bool)) (X Y:SL->St->Prop) (L:SL) (st:St):Prop:=guarded ops L gd (X L st) (Y L st)
def acj (f:AV) (args:List AV):Option (Nat × List AV):=
 match f with
 |.fn g first captured=>
  match g with
  |.func g=>some (g,first++args++captured)
  |_=>none
 |.sc x=>
  match x with
  |.func g first captured=>
   match g with
   |.func g=>some (g,first.toList.map .sc++args++captured.toList.map .sc)
   |_=>none
  |_=>none
 |_=>none
def iz (P:Program) (f:Nat) (args:List AV) (st:St) (R:AV->St->Prop):Prop:=
 ∀ (g:Gh) (w:World) (vs:List Value),Ok g st.h w->(∀ o,st.nx<=o->g.inj o=none)->bz g w args vs ->
  (∃ v w' g' r st',(callFunc f vs.toArray).run P w = .ok (.value v) w'/\R r st'/\st.nx<=st'.nx/\Step g st.h w st.nx st'.nx g' st'.h w'/\Ok g' st'.h w'/\Rel g' w' r v) \/
  ((
   callFunc f vs.toArray).run P w = .ok (.enter f vs.toArray) w /\
   Calls P f vs.toArray w (fun e w'=>∃ v g' r st',e = .returned v/\R r st'/\st.nx<=st'.nx/\Step g st.h w st.nx st'.nx g' st'.h w'/\Ok g' st'.h w'/\Rel g' w' r v))
def dm (K:SL->St->Prop) (d:Option Tmp) (L:SL):AV->St->Prop:=fun r st=>K (l8 d r L) st
def au8 (P:Program) (c:Option (Nat × List AV)) (d:Option Tmp) (L:SL) (st:St) (K:SL->St->Prop):Prop:=
 match c with
 |some (f,args)=>iz P f args st (dm K d L)
 |none=>False
def Uv (P:Program) (o:Oper) (L:SL) (st:St) (K:SL->St->Prop):Prop:=
 match o.op with
 |.call { callee:=.value f,args,.. }=>au8 P (acj (eu L f) (args.toList.map (eu L))) o.dst L st K
 |_=>False
def En (r:Option (AV × St)) (P:Program) (o:Oper) (L:SL) (st:St) (K:SL->St->Prop):Prop:=
 match r with
 |some (v,st')=>K (l8 o.dst v L) st'
 |none=>Uv P o L st K
def Pf (P:Program) (T:fp) (o:Oper) (K:SL->St->Prop) (L:SL) (st:St):Prop:=En (il P T o (eu L) st) P o L st K
def Mw (d:Option Tmp) (K:SL->St->Prop) (L:SL) (st:St):Prop:=K (l8 d (.sc undef) L) st
def opsL (P:Program) (T:fp) (ops:Array Oper):List Oper->(SL->St->Prop)->SL->St->Prop
 | [],K=>K
 |o::r,K=>Cu ops o.guard (Pf P T o (opsL P T ops r K)) (Mw o.dst (opsL P T ops r K))
def AV.names:AV->List Nat
 |.agg l=>go l
 |.gj l=>go l
 |.sl o _ _ _=>[o]
 |.ptr o _=>[o]
 |.fn _ a b=>go a++go b
 |.mp o=>[o]
 |.vv _ v=>v.names
 |.yl o=>[o]
 |_=>[]
where go:List AV->List Nat
 | []=>[]
 |a::r=>a.names++go r
def bk.names:bk->List Nat
 |.row cells _ _ _=>AV.names.go cells
 |.map es=>AV.names.go (es.map (·.2))
 |.loop .. => []
def reach (h:Tr bk):Nat->List Nat->List Nat->List Nat
 |0,_,acc=>acc
 |_+1,[],acc=>acc
 |n+1,o::r,acc=>
  bif acc.contains o then reach h n r acc
  else
   match h.get o with
   |some x=>reach h n (x.names++r) (acc++[o])
   |none=>reach h n r acc
def vr (h:Tr bk):List Nat->Tr bk
 | []=>.nil
 |o::r=>Tr.set depth (vr h r) o (h.get o)
def zz (h1:Tr bk):List Nat->Tr bk->Tr bk
 | [],h=>h
 |o::r,h=>Tr.set depth (zz h1 r h) o (h1.get o)
def ff (lo:Nat):Nat->List Nat
 |0=>[]
 |n+1=>lo::ff (lo+1) n
structure Rec where
 R:List Nat
 W:List Nat
def tn (T:fp) (ρ:Operand->AV) (o:Oper):Bool:=
 match o.op with
 |.store .. | .mapUpdate .. | .insert .. => false
 |.call { callee:=.builtin b,.. }=>
  match b with
  |.append|.copy|.delete|.unsafeString=>false
  |_=>true
 |.call { callee:=.value f,.. }=>
  match ρ f with
  |.fn (.func g) _ _=>match T.find g with|some (b,_)=>b|none=>false
  |.sc (.func (.func g) _ _)=>match T.find g with|some (b,_)=>b|none=>false
  |_=>false
 |_=>true
def eg (o:Oper) (L:SL):Operand->AV
 |.tmp t=>bif o.op.operands.any (fun x=>match x with|.tmp u=>Nat.beq u t|_=>false) then lk L t else .bad
 |.const v=>.sc v
 |.global g=>.sc (.pointer (some ⟨g,0,none⟩))
 |.func f=>.sc (.func (.func f) #[] #[])
def same (h h':Tr bk):List Nat->Prop
 | []=>True
 |o::r=>h.get o=h'.get o/\same h h' r
def Fu (o:Nat) (l:List Nat):Bool:=List.rec (motive:=fun _=>Bool) false (fun x _ ih=>Bool.rec (motive:=fun _=>Bool) ih true (Nat.beq x o)) l
def xw (a b:List Nat):Bool:=List.rec (motive:=fun _=>Bool) true (fun _ _ _=>List.rec (motive:=fun _=>Bool) true (fun x _ ih=>Bool.rec (motive:=fun _=>Bool) ih false (Fu x b)) a) b
theorem Cr (o:Nat):∀ l:List Nat,Fu o l=true↔o ∈ l
 | []=>by simp [Fu]
 |x::l=>by
  show (Bool.rec _ _ (Nat.beq x o):Bool)=true↔_;have ih:=Cr o l;cases hb:Nat.beq x o with
  |true=>have:=zzg hb;subst this;simp
  |false=>
   have:x≠o:=fun e=>by subst e;simp at hb
   show Fu o l=true↔_;rw [ih,zyb];exact ⟨.inr,fun h=>h.resolve_left (fun e=>this e.symm)⟩
theorem aup (a b:List Nat):xw a b=true↔∀ o ∈ a,o ∉ b:=by
 cases b with
 |nil=>simp [xw]
 |cons y b=>
  show (List.rec (motive:=fun _=>Bool) true (fun x _ ih=>Bool.rec (motive:=fun _=>Bool) ih false (Fu x (y::b))) a:Bool)=true↔_;generalize y::b=l
  induction a with
  |nil=>simp
  |cons x a ih=>
   show (Bool.rec _ _ (Fu x l):Bool)=true↔_;cases hb:Fu x l with
   |true=>
    have:=(Cr x l).1 hb;simp [this]
   |false=>
    have hn:x ∉ l:=fun h=>by rw [(Cr x l).2 h] at hb;cases hb
    show (List.rec _ _ a:Bool)=true↔_;rw [ih];simp [hn]
def Pq (before:Array Nat) (i j:Nat) (a b:Rec):Bool:=(xw a.W b.R && xw a.W b.W && xw a.R b.W) || (before.getD j 0).testBit i
def Ua (before:Array Nat) (i:Nat) (a:Rec):Nat->List Rec->Bool
 |_,[]=>true
 |j,b::r=>Pq before i j a b && Ua before i a (j+1) r
def eh (before:Array Nat):Nat->List Rec->Bool
 |_,[]=>true
 |i,a::r=>Ua before i a (i+1) r && eh before (i+1) r
def E8 (ops:Array Oper) (o:Oper):List Nat:=
 o.dst.toList++(o.op.operands.toList.filterMap fun x=>match x with|.tmp u=>some u|_=>none)++(match o.guard with|some (j,_)=>[yr ops j]|none=>[])
def Tp (ops:Array Oper):Bool:=
 ops.toList.zipIdx.all (fun q=>(E8 ops q.1).all fun t=>ops.toList.zipIdx.all fun p=>(match p.1.dst with|some d=>!(Nat.beq d t)|none=>true) || Nat.beq p.2 q.2 || ((Region.before ops).getD (max p.2 q.2) 0).testBit (min p.2 q.2)) &&
 ops.toList.zipIdx.all (fun q=>q.1.after.all fun e=>!(Region.binds .any e) || Nat.blt e.on q.2)
def gu:Nat:=60
def kp (o:Op):Bool:=
 match o with
 |.move _=>true
 |.assign _=>true
 |.fieldAddr .. => true
 |.nilCheck _=>true
 |.pick .. => true
 |.extract .. => true
 |.indexAddr .. => true
 |.binOp .. => true
 |.call { callee:=.builtin .len,.. }=>true
 |_=>false
def n7 (o:Oper) (L:SL) (st:St):List Nat:=
 bif kp o.op then [] else
 match o.op with
 |.load _ a=>(eg o L a).names
 |.store _ a _=>(eg o L a).names
 |_=>reach st.h gu (AV.names.go (o.op.operands.toList.map (eg o L))) []
def ahk (P:Program) (T:fp) (o:Oper) (recs:List Rec) (K:List Rec->SL->St->Prop) (L:SL) (st:St):Prop:=
 ∃ (F W:List Nat) (v:AV) (fg:St),il P T o (eg o L) { h:=vr st.h F,nx:=st.nx,rl:=[],wl:=[] }=some (v,fg)/\(∀ q ∈ W,q ∈ F)/\(∀ q ∈ F,q ∉ W->(vr st.h F).get q=fg.h.get q)/\(∀ q ∈ F,q<st.nx)/\fg.nx<=cz /\
  K (recs++[⟨F,W++ff st.nx (fg.nx - st.nx)⟩]) (l8 o.dst v L) { h:=zz fg.h (F++ff st.nx (fg.nx - st.nx)) st.h,nx:=fg.nx,rl:=[],wl:=[] }
def K8 (n:Nat):List Nat->Bool
 | []=>true
 |o::r=>Nat.blt o n && K8 n r
def Jl (ro:Bool) (F:List Nat) (o:Oper) (recs:List Rec) (K:List Rec->SL->St->Prop) (L:SL) (st:St) (r:Option (AV × St)):Prop:=
 match r with
 |some (v,fg)=>(K8 st.nx F=true/\Nat.ble fg.nx cz=true)/\same (vr st.h F) fg.h (bif ro then F else []) /\
  K (recs++[⟨F,(bif ro then [] else F)++ff st.nx (fg.nx - st.nx)⟩]) (l8 o.dst v L) { h:=zz fg.h (F++ff st.nx (fg.nx - st.nx)) st.h,nx:=fg.nx,rl:=[],wl:=[] }
 |none=>False
def mq (P:Program) (T:fp) (o:Oper) (recs:List Rec) (K:List Rec->SL->St->Prop) (L:SL) (st:St) (F:List Nat):Prop:=
 Jl (tn T (eg o L) o) F o recs K L st (il P T o (eg o L) { h:=vr st.h F,nx:=st.nx,rl:=[],wl:=[] })
def iy (P:Program) (T:fp) (o:Oper) (recs:List Rec) (K:List Rec->SL->St->Prop) (L:SL) (st:St):Prop:=mq P T o recs K L st (n7 o L st)
theorem akk {n:Nat}:∀ {l:List Nat},K8 n l=true->∀ q ∈ l,q<n
 | [],_,q,hq=>by cases hq
 |o::r,h,q,hq=>by
  simp only [K8,zzh] at h;rcases zyb.1 hq with rfl|hq
  ·simpa using h.1
  ·exact akk h.2 q hq
theorem ard {h h':Tr bk}:∀ {l:List Nat},same h h' l->∀ q ∈ l,h.get q=h'.get q
 | [],_,q,hq=>by cases hq
 |o::r,hs,q,hq=>by
  rcases zyb.1 hq with rfl|hq
  ·exact hs.1
  ·exact ard hs.2 q hq
theorem aG5 {P:Program} {T:fp} {o:Oper} {recs:List Rec} {K:List Rec->SL->St->Prop} {L:SL} {st:St} (h:iy P T o recs K L st):ahk P T o recs K L st:=by
 unfold iy mq Jl at h
 split at h
 ·rename_i v fg he;obtain ⟨⟨h1,h2⟩,h3,h4⟩:=h;refine ⟨_,_,v,fg,he,?_,?_,akk h1,zB h2,h4⟩
  ·intro q hq;cases hb:tn T (eg o L) o with
   |true=>rw [hb] at hq;cases hq
   |false=>rw [hb] at hq;exact hq
  ·intro q hq hn;cases hb:tn T (eg o L) o with
   |true=>rw [hb] at h3;exact ard h3 q hq
   |false=>rw [hb] at hn;exact (hn hq).elim
 ·exact h.elim
def av5 (ops:Array Oper) (K:SL->St->Prop) (recs:List Rec) (L:SL) (st:St):Prop:=eh (Region.before ops) 0 recs=true/\K L st
def Jx (P:Program) (T:fp) (ops:Array Oper):List Oper->(SL->St->Prop)->List Rec->SL->St->Prop
 | [],K=>av5 ops K
 |o::r,K=>fun recs=>Cu ops o.guard (iy P T o recs (Jx P T ops r K)) (Mw o.dst (Jx P T ops r K (recs++[⟨[],[]⟩])))
def Sn (P:Program) (T:fp) (ops:Array Oper):List Oper->(SL->St->Prop)->List Rec->SL->St->Prop
 | [],K=>av5 ops K
 |o::r,K=>fun recs=>Cu ops o.guard (ahk P T o recs (Sn P T ops r K)) (Mw o.dst (Sn P T ops r K (recs++[⟨[],[]⟩])))
def I1 (P:Program) (T:fp) (ops:Array Oper) (draw:Bool) (K:SL->St->Prop) (L:SL) (st:St):Prop:=
 match draw with
 |true=>Tp ops=true/\(Jx P T ops ops.toList K [] L st\/Sn P T ops ops.toList K [] L st)
 |false=>opsL P T ops ops.toList K L st
def idx (l:List Nat) (o:Nat):Nat->Option Nat:=
 List.rec (motive:=fun _=>Nat->Option Nat) (fun _=>none) (fun a _ ih i=>bif Nat.beq a o then some i else ih (i+1)) l
def AV.cx (τ:Nat->Option Nat):AV->AV
 |.agg l=>.agg (go τ l)
 |.gj l=>.gj (go τ l)
 |.vl loc sz es=>.vl loc sz (go τ es)
 |.sl o off len sz=>match τ o with|some p=>.sl p off len sz|none=>.bad
 |.ptr o off=>match τ o with|some p=>.ptr p off|none=>.bad
 |.ik l=>.ik (go τ l)
 |.fn f a b=>.fn f (go τ a) (go τ b)
 |.mp o=>match τ o with|some p=>.mp p|none=>.bad
 |.vv t v=>.vv t (v.cx τ)
 |.yl _=>.bad
 |a=>a
where go (τ:Nat->Option Nat):List AV->List AV
 | []=>[]
 |a::r=>a.cx τ::go τ r
def bk.cx (τ:Nat->Option Nat):bk->Option bk
 |.row cells k s e=>some (.row (AV.cx.go τ cells) k s e)
 |.map es=>some (.map (es.map fun e=>(e.1,e.2.cx τ)))
 |.loop .. => none
def sw (h:Tr bk):List Nat->List Nat
 | []=>[]
 |o::r=>(match h.get o with|some x=>x.names|none=>[])++sw h r
def jx (bg:Nat) (keep:List Nat) (L:SL) (st:St):List Nat:=reach st.h gu (AV.names.go (keep.map (lk L))++sw st.h (ff 0 bg)) (ff 0 bg)
def dq (bg:Nat) (keep:List Nat) (L:SL) (st:St):List AV:=AV.cx.go (fun o=>idx (jx bg keep L st) o 0) (keep.map (lk L))
def ky (h:Tr bk) (τ:Nat->Option Nat):List Nat->List (Option bk)
 | []=>[]
 |o::r=>(h.get o).bind (bk.cx τ)::ky h τ r
def gk (bg:Nat) (keep:List Nat) (L:SL) (st:St):List (Option bk):=ky st.h (fun o=>idx (jx bg keep L st) o 0) (jx bg keep L st)
def ov:Nat->List (Option bk)->Tr bk
 |_,[]=>.nil
 |i,x::r=>Tr.set depth (ov (i+1) r) i x
def ay (os:List (Option bk)):St:={ h:=ov 0 os,nx:=os.length,rl:=[],wl:=[] }
def fm:List Nat->List AV->SL
 |t::ts,v::vs=>(t,v)::fm ts vs
 |_,_=>[]
def ou (bg:Nat) (keep:List Nat) (X:List AV->List (Option bk)->Prop) (Q:QL):QL:=fun e L st=>
 match e with
 |.normal=>X (dq bg keep L st) (gk bg keep L st)
 |e=>Q e L st
def kh (bg:Nat) (vs:List AV) (os:List (Option bk)) (vs':List AV) (os':List (Option bk)):Prop:=
 vs'.length=vs.length/\(bg<=os.length->bg<=os'.length)/\∀ (g:Gh) (w:World) (us:List Value),Ok g (ay os).h w->(∀ o,os.length<=o->g.inj o=none)->bz g w vs us->∃ g',Ok g' (ay os').h w/\bz g' w vs' us/\g'.b0=g.b0/\(∀ o,os'.length<=o->g'.inj o=none)/\(∀ o,o<bg->g'.inj o=g.inj o)/\(∀ b j,g.K b j->g'.K b j) /\
  (∀ o b base,((ay os').h.get o).isSome=true->g'.inj o=some (b,base)->∃ o2 aJ,((ay os).h.get o2).isSome=true/\g.inj o2=some (b,aJ))/\(∀ b j,g'.K b j->g.K b j\/∃ o base,((ay os).h.get o).isSome=true/\g.inj o=some (b,base))
theorem kh.refl (bg vs os):kh bg vs os vs os:=⟨rfl,id,fun g _ _ h1 hf h2=>⟨g,h1,h2,rfl,hf,fun _ _=>rfl,fun _ _ h=>h,fun o b base h h'=>⟨o,base,h,h'⟩,fun _ _ h=>.inl h⟩⟩
theorem kh.trans {bg vs os vs' os' nT nW} (h:kh bg vs os vs' os') (k:kh bg vs' os' nT nW):kh bg vs os nT nW:=by
 refine ⟨k.1.trans h.1,fun q=>k.2.1 (h.2.1 q),fun g w us h1 hf h2=>?_⟩;obtain ⟨g1,a1,a2,a3,a4,a5,a6,a7,a8⟩:=h.2.2 g w us h1 hf h2;obtain ⟨g2,b1,b2,b3,b4,b5,b6,b7,b8⟩:=k.2.2 g1 w us a1 a4 a2;refine ⟨g2,b1,b2,b3.trans a3,b4,fun o ho=>(b5 o ho).trans (a5 o ho),fun b j q=>b6 b j (a6 b j q),fun o b base q q'=>?_,fun b j q=>?_⟩
 ·obtain ⟨o2,aJ,c1,c2⟩:=b7 o b base q q';exact a7 o2 b aJ c1 c2
 ·rcases b8 b j q with c|⟨o,base,c1,c2⟩
  ·exact a8 b j c
  ·exact .inr (a7 o b base c1 c2)
def upW (bg:Nat) (X:List AV->List (Option bk)->Prop) (vs:List AV) (os:List (Option bk)):Prop:=∃ vs' os',kh bg vs os vs' os'/\X vs' os'
def xn (bg:Nat) (B:QL->SL->St->Prop) (Q:QL) (L:SL) (st:St):Prop:=
 ∃ keep:List Nat,∀ X:List AV->List (Option bk)->Prop,(∀ vs os,B (ou bg keep (upW bg X) Q) (fm keep vs) (ay os)->X vs os)->upW bg X (dq bg keep L st) (gk bg keep L st)
def Ma (W:QL->SL->St->Prop) (Q:QL):QL:=fun e L st=>
 match e with
 |.normal=>W Q L st
 |e=>Q e L st
def Ob (id:Nat) (Q:QL):QL:=fun e L st=>
 match e with
 |.exit j=>bif Nat.beq j id then Q .normal L st else Q (.exit j) L st
 |e=>Q e L st
def cj:Nat->List AV->SL
 |_,[]=>[]
 |i,a::r=>(i,a)::cj (i+1) r
abbrev QI:=Ex->Option Ex->SL->St->Prop
abbrev My:=Nat->List AV->(Ex->St->Prop)->St->Prop
def Fj (l:Nat) (a:AV):Bool:=
 match a with
 |.sc v=>
  match v with
  |.func f va vb=>
   match f with
   |.yield k=>Nat.beq k l && Nat.beq va.size 0 && Nat.beq vb.size 0
   |_=>false
  |_=>false
 |_=>false
def yieldOf (l:Nat) (o:Oper) (L:SL):Option (Array Operand):=
 match o.op with
 |.call { callee:=.value f,args,.. }=>bif Fj l (eu L f) then some args else none
 |_=>none
def ahv (d:Option Tmp) (L:SL) (K:Option Ex->SL->St->Prop) (e:Ex) (st:St):Prop:=
 match e with
 |.normal=>K none (l8 d (.sc (.bool true)) L) st
 |e=>K (some e) (l8 d (.sc (.bool false)) L) st
def E6 (R:My) (p:Nat) (args:Array Operand) (d:Option Tmp) (K:Option Ex->SL->St->Prop) (L:SL) (st:St):Prop:=
 R p (args.toList.map (eu L)) (ahv d L K) st
def acm (P:Program) (T:fp) (R:My) (bg:Nat) (o:Oper) (K:Option Ex->SL->St->Prop) (pe:Option Ex) (L:SL) (st:St) (y:Option (Array Operand)):Prop:=
 match y with
 |none=>Nv (il P T o (eu L) st) o.dst L (K pe)
 |some args=>pe=none/\∃ keep:List Nat,E6 R (gk bg keep L st).length args o.dst K (fm keep (dq bg keep L st)) (ay (gk bg keep L st))
def opI (P:Program) (T:fp) (l:Nat) (R:My) (bg:Nat) (o:Oper) (K:Option Ex->SL->St->Prop) (pe:Option Ex) (L:SL) (st:St):Prop:=acm P T R bg o K pe L st (yieldOf l o L)
def ahs (a:AV) (c:Bool) (X Y:Option Ex->SL->St->Prop) (pe:Option Ex) (L:SL) (st:St):Prop:=Dx (G1 a c) (X pe L st) (Y pe L st)
def O0 (ops:Array Oper) (gd:Option (Nat × Bool)) (X Y:Option Ex->SL->St->Prop) (pe:Option Ex) (L:SL) (st:St):Prop:=guarded ops L gd (X pe L st) (Y pe L st)
def Gv (a:AV) (X Y:Option Ex->SL->St->Prop) (pe:Option Ex) (L:SL) (st:St):Prop:=u9 a (X pe L st) (Y pe L st)
def abq (d:Option Tmp) (K:Option Ex->SL->St->Prop) (pe:Option Ex) (L:SL) (st:St):Prop:=K pe (l8 d (.sc undef) L) st
def Kd (P:Program) (T:fp) (l:Nat) (R:My) (bg:Nat) (ops:Array Oper):List Oper->(Option Ex->SL->St->Prop)->Option Ex->SL->St->Prop
 | [],K=>K
 |o::r,K=>O0 ops o.guard (opI P T l R bg o (Kd P T l R bg ops r K)) (abq o.dst (Kd P T l R bg ops r K))
def aho (W:QI->Option Ex->SL->St->Prop) (Q:QI):QI:=fun e pe L st=>
 match e with
 |.normal=>W Q pe L st
 |e=>Q e pe L st
def Ww (id:Nat) (Q:QI):QI:=fun e pe L st=>
 match e with
 |.exit j=>bif Nat.beq j id then Q .normal pe L st else Q (.exit j) pe L st
 |e=>Q e pe L st
def Ew (Q':QL) (Q:QI):QI:=fun e pe L st=>
 match e with
 |.normal=>pe=none/\Q' .normal L st
 |e=>Q e pe L st
def ui (P:Program) (T:fp) (l:Nat) (R:My) (bg:Nat):Code->QI->Option Ex->SL->St->Prop
 |.skip,Q,pe,L,st=>Q .normal pe L st
 |.label _,Q,pe,L,st=>Q .normal pe L st
 |.region _ ops false,Q,pe,L,st=>Kd P T l R bg ops ops.toList (Q .normal) pe L st
 |.region _ ops true,Q,pe,L,st=>I1 P T ops true (Q .normal pe) L st
 |.seq a b,Q,pe,L,st=>ui P T l R bg a (aho (ui P T l R bg b) Q) pe L st
 |.cond c a b,Q,pe,L,st=>Gv (eu L c) (ui P T l R bg a Q) (ui P T l R bg b Q) pe L st
 |.block id b,Q,pe,L,st=>ui P T l R bg b (Ww id Q) pe L st
 |.loop b,Q,pe,L,st=>pe=none/\xn bg (fun Q' L st=>ui P T l R bg b (Ew Q' Q) none L st) (fun _ _ _=>False) L st
 |.exit id,Q,pe,L,st=>Q (.exit id) pe L st
 |.ret,Q,pe,L,st=>Q .ret pe L st
 |_,_,_,_,_=>False
structure NT where
 n:Nat
 fix:List (Nat × Value):=[]
instance:Coe Nat NT:=⟨fun n=>{ n }⟩
def NT.has (nt:NT) (t:Nat):Bool:=Nat.blt t nt.n && nt.fix.all fun p=>!Nat.beq p.1 t
def n5 (nt:NT) (ops:Array Oper):Bool:=ops.all fun o=>match o.guard with
 |none=>true
 |some (j,_)=>match (ops[j]?).bind (·.dst) with|some d=>Nat.blt d nt.n|none=>false
def sj (nt:NT) (ops:Array Oper):Bool:=ops.all fun o=>match o.dst with|none=>true|some d=>nt.has d
def _root_.Go.Code.x7:Code->Bool
 |.seq a b=>a.x7 && b.x7
 |.cond _ a b=>a.x7 && b.x7
 |.block _ b=>b.x7
 |.loop b=>b.x7
 |.scope b=>b.x7
 |.rangeFunc .. => false
 |_=>true
def fq (nt:NT):Code->Bool
 |.region _ ops _=>sj nt ops && n5 nt ops
 |.seq a b=>fq nt a && fq nt b
 |.cond _ a b=>fq nt a && fq nt b
 |.block _ b=>fq nt b
 |.loop b=>fq nt b
 |.scope b=>fq nt b
 |.rangeFunc _ ps a b=>ps.all (fun t=>nt.has t) && fq nt a && fq nt b && a.x7 && b.x7
 |_=>true
def Nt (a:AV):Option (Nat × List AV):=
 match a with
 |.fn f first captured=>
  match f,first with
  |.func g,[]=>some (g,captured)
  |_,_=>none
 |.sc v=>
  match v with
  |.func f first captured=>
   match f,first.toList with
   |.func g,[]=>some (g,captured.toList.map .sc)
   |_,_=>none
  |_=>none
 |_=>none
def Gs (P:Program) (g:Nat):Option (Nat × Code):=
 match P.funcs[g]? with
 |some fn=>
  match fn.body with
  |some body=>bif qk P g && fq fn.ntmps body && fn.results.isEmpty then some (fn.ntmps,body) else none
  |none=>none
 |none=>none
def F8:List Tmp->List AV->SL->SL
 |t::ts,v::vs,L=>F8 ts vs ((t,v)::L)
 |_,_,L=>L
def aDx (B:QL->SL->St->Prop) (X:Ex->St->Prop):QL:=fun e L st=>
 match e with
 |.normal=>B (fun e _ st=>X e st) L st
 |_=>False
def sm (ps:List Tmp) (A B:Nat->QL->SL->St->Prop) (L0:SL):My:=fun p args X st=>
 Nat.beq args.length ps.length=true/\Nat.ble p 1000=true/\A p (aDx (B p) X) (F8 ps args L0) st
def amf (Q:QL) (L0:SL):QI:=fun e pe _ st=>
 match e with
 |.exit _=>False
 |_=>
  match pe with
  |none=>Q .normal L0 st
  |some e=>Q e L0 st
def S3 (P:Program) (T:fp) (ps:List Tmp) (A B:Nat->QL->SL->St->Prop) (p:Nat) (Q:QL) (L0:SL) (st0:St) (bW:List AV) (c:Option (Nat × Code)):Prop:=
 match c with
 |some (nt,code)=>Nat.ble (bW.length+1) nt=true/\∀ l:Nat,ui P T l (sm ps A B L0) p code (amf Q L0) none (cj 0 (.sc (.func (.yield l) #[] #[])::bW)) st0
 |none=>False
def Rk (P:Program) (T:fp) (ps:List Tmp) (A B:Nat->QL->SL->St->Prop) (p:Nat) (Q:QL) (L0:SL) (st0:St) (f:Option (Nat × List AV)):Prop:=
 match f with
 |some (g,bW)=>S3 P T ps A B p Q L0 st0 bW (Gs P g)
 |none=>False
def aze (P:Program) (T:fp) (f:Operand) (ps:List Tmp) (A B:Nat->QL->SL->St->Prop) (p:Nat) (Q:QL) (L0:SL) (st0:St):Prop:=
 Nat.ble p 1000=true/\Rk P T ps A B p Q L0 st0 (Nt (eu L0 f))
def aw1 (P:Program) (T:fp) (f:Operand) (ps:List Tmp) (A B:Nat->QL->SL->St->Prop) (bg:Nat) (Q:QL) (L:SL) (st:St):Prop:=
 ∃ keep:List Nat,aze P T f ps A B (gk bg keep L st).length Q (fm keep (dq bg keep L st)) (ay (gk bg keep L st))
def wl (P:Program) (T:fp):Nat->Code->QL->SL->St->Prop
 |_,.skip,Q,L,st=>Q .normal L st
 |_,.label _,Q,L,st=>Q .normal L st
 |_,.region _ ops draw,Q,L,st=>I1 P T ops draw (Q .normal) L st
 |bg,.seq a b,Q,L,st=>wl P T bg a (Ma (wl P T bg b) Q) L st
 |bg,.cond c a b,Q,L,st=>Ao (eu L c) (wl P T bg a Q) (wl P T bg b Q) L st
 |bg,.block id body,Q,L,st=>wl P T bg body (Ob id Q) L st
 |bg,.loop body,Q,L,st=>xn bg (wl P T bg body) Q L st
 |bg,.scope body,Q,L,st=>wl P T bg body Q L st
 |_,.exit id,Q,L,st=>Q (.exit id) L st
 |_,.ret,Q,L,st=>Q .ret L st
 |bg,.rangeFunc f ps dX body,Q,L,st=>aw1 P T f ps.toList (fun p=>wl P T p dX) (fun p=>wl P T p body) bg Q L st
 |_,_,_,_,_=>False
def xt (P:Program) (L:SL) (st:St):List ResultVar->Option (List AV)
 | []=>some []
 |.tmp t::r=>(xt P L st r).map (lk L t :: ·)
 |.cell a t::r=>
  match wx P t (lk L a) st with
  |some (v,_)=>(xt P L st r).map (v :: ·)
  |none=>none
def Mc (r:Option (List AV)) (R:AV->St->Prop) (st:St):Prop:=
 match r with
 |some l=>R (pack l) st
 |none=>False
def di (P:Program) (rs:List ResultVar) (R:AV->St->Prop):QL:=fun e L st=>
 match e with
 |.exit _=>False
 |_=>Mc (xt P L st rs) R st
def AV.fresh:AV->Bool
 |.sc _=>true
 |.agg l=>go l
 |.gj l=>go l
 |.vl loc _ es=>loc && go es
 |.fn _ a b=>go a && go b
 |.vv _ v=>v.fresh
 |.ez=>true
 |_=>false
where go:List AV->Bool
 | []=>true
 |a::r=>a.fresh && go r
structure tk (nt:NT) (tmps:Array Value):Prop where
 size:tmps.size=nt.n
 fix:∀ p ∈ nt.fix,tmps.getD p.1 undef=p.2
theorem NT.Jm {nt:NT} {t:Nat} (h:nt.has t=true):t<nt.n/\∀ p ∈ nt.fix,p.1≠t:=by unfold NT.has at h;rw [zzh] at h;refine ⟨zB h.1,fun p hp e=>?_⟩;have:=zz9.1 h.2 p hp;rw [e] at this;simp at this
theorem tk.set {nt:NT} {tmps:Array Value} (h:tk nt tmps) {t:Nat} {u:Value} (ht:nt.has t=true):tk nt (tmps.setIfInBounds t u):=by obtain ⟨h1,h2⟩:=NT.Jm ht;refine ⟨by simp [h.size],fun p hp=>?_⟩;rw [zze,zzz,if_neg (fun e=>h2 p hp e.symm),<- zze];exact h.fix p hp
theorem tk.put {nt:NT} {a:Act} {dst:Option Tmp} {u:Value} (h:tk nt a.tmps) (hd:∀ d,dst=some d->nt.has d=true):tk nt (a.put dst u).tmps:=by
 cases dst with
 |none=>exact h
 |some d=>exact h.set (hd d rfl)
def kj (g:Gh) (w:World) (nt:NT) (L:SL) (tmps:Array Value):Prop:=tk nt tmps/\∀ t,Rel g w (lk L t) (tmps.getD t undef)
theorem kj.ext {g w g' w'} (hx:Ext g w g' w') {nt L tmps} (h:kj g w nt L tmps):kj g' w' nt L tmps:=⟨h.1,fun t=>(h.2 t).ext hx⟩
theorem kj.eval {g w nt L} {a:Act} (h:kj g w nt L a.tmps):qf g w (eu L) a.eval:=by
 intro x;cases x with
 |tmp t=>exact h.2 t
 |const v=>exact .sc v
 |global g'=>exact .sc _
 |func f=>exact .sc _
theorem pq (d t:Nat) (v:AV) (r:SL):lk ((d,v)::r) t=if d=t then v else lk r t:=by
 show (Bool.rec (motive:=fun _=>AV) (lk r t) v (Nat.beq d t))=_;by_cases h:d=t
 ·subst h;rw [Nat.beq_refl,if_pos rfl]
 ·rw [if_neg h,uk h]
theorem kj.put {g w nt L} {a:Act} {dst:Option Tmp} {v:AV} {u:Value} (h:kj g w nt L a.tmps) (hv:Rel g w v u) (hd:∀ d,dst=some d->nt.has d=true):kj g w nt (l8 dst v L) (a.put dst u).tmps:=by
 cases dst with
 |none=>exact h
 |some d=>
  have hd:=hd d rfl;refine ⟨h.1.set hd,fun t=>?_⟩;simp only [l8,pq,Act.put,zze,zzz];by_cases e:d=t
  ·subst e;rw [if_pos rfl,if_pos rfl,if_pos (by rw [h.1.size];exact (NT.Jm hd).1)];exact hv
  ·rw [if_neg e,if_neg e,<- zze];exact h.2 t
structure dz where
 b0:Nat
 w:World
 K:Nat->Nat->Prop
 O:Nat->Prop
 bg:Nat
 pb:Nat->Option (Nat × Nat)
 far:Nat->Prop:=fun _=>False
 n0:Nat
 D:List Deferred:=[]
structure ub (B:dz) (g:Gh) (h:Tr bk) (w:World):Prop where
 b0:g.b0=B.b0
 pins:∀ o,(o<B.bg\/B.far o)->g.inj o=B.pb o
 K:∀ b j,B.K b j->g.K b j
 cell:∀ b j,B.K b j->w.cell? ⟨b,j,none⟩=B.w.cell? ⟨b,j,none⟩
 size:B.w.heap.size<=w.heap.size
 os:w.os=B.w.os
 tape:w.tape=B.w.tape
 output:w.output=B.w.output
 frame:∀ b,b<B.w.heap.size->¬ B.O b->w.heap[b]? = B.w.heap[b]?
 own:∀ o b base,(h.get o).isSome=true->g.inj o=some (b,base)->B.w.heap.size<=b\/B.O b
 o0:∀ b j,g.K b j->B.K b j\/B.w.heap.size<=b\/B.O b
 ju:∀ (b:Nat) (cs:Array Value) (e:TypeId) (fr:Nat × Nat),B.w.heap[b]? = some (Obj.cells cs e fr)->∃ (cs':Array Value) (dK:Nat × Nat),w.heap[b]? = some (Obj.cells cs' e dK)/\cs'.size=cs.size
 lp:∀ (b:Nat) (l:Loop),B.w.heap[b]? = some (Obj.loop l)->∃ l',w.heap[b]? = some (Obj.loop l')
 whole:∀ (b:Nat) (cs:Array Value) (e:TypeId) (fr:Nat × Nat),B.w.heap[b]? = some (Obj.cells cs e fr)->(∀ j,B.K b j)->w.heap[b]? = B.w.heap[b]?
structure mf (B:dz) (g:Gh) (st:St) (w:World):Prop where
 ok:Ok g st.h w
 fresh:∀ o,st.nx<=o->¬ B.far o->g.inj o=none
 base:ub B g st.h w
 bg:B.bg<=st.nx
def dz.avw (B:dz) (n n':Nat):Prop:=∀ o,n<=o->o<n'->¬ B.far o
def dz.iw (B:dz):Prop:=∀ o,¬ B.far o
theorem dz.iw.vw {B:dz} (h:B.iw) (n n':Nat):B.avw n n':=fun o _ _=>h o
theorem mf.free {B g st st' w} (h:mf B g st w) (hn:B.avw st.nx st'.nx):qh g st st':=fun o h1 h2=>h.fresh o h1 (hn o h1 h2)
theorem mf.step {B g st w g' st' w'} (h:mf B g st w) (hn:B.avw st.nx st'.nx) (s:Stp g st w g' st' w') (aB:Ok g' st'.h w'):mf B g' st' w':=by
 refine ⟨aB,fun o h1 h2=>s.step.fresh o (h.fresh o (zzu s.le h1) h2) zO,?_,zzu h.bg s.le⟩;have b:=h.base;have t:=s.step;refine ⟨t.ext.b0.trans b.b0,fun o ho=>?_,fun c j hc=>t.ext.K c j (b.K c j hc),fun c j hc=>(t.ext.cell c j (b.K c j hc)).trans (b.cell c j hc),zzu b.size t.size,t.os.trans b.os,t.tape.trans b.tape,t.output.trans b.output,fun c hc hO=>?_,fun o c base ho hi=>?_,fun c j hc=>?_,fun c cs e fr h=>?_,fun c l h=>?_,fun c cs e fr h hK=>(t.ext.whole c cs e fr ((b.whole c cs e fr h hK).trans h) (fun j=>b.K c j (hK j))).trans (b.whole c cs e fr h hK)⟩
 ·have h1:=b.pins o ho;have h2:=h.bg;cases hp:B.pb o with
  |none=>
   rw [hp] at h1;refine t.fresh o h1 (fun hr=>?_);rcases ho with ho|ho
   ·omega
   ·exact hn o hr.1 hr.2 ho
  |some p=>rw [hp] at h1;exact t.ext.inj o p h1
 ·rw [t.frame c (zyd hc b.size) (fun o base ho hi=>?_)]
  ·exact b.frame c hc hO
  ·rcases b.own o c base ho hi with h1|h1
   ·omega
   ·exact hO h1
 ·rcases t.own o c base ho hi with h1|⟨o',base',h1,h2⟩
  ·exact .inl (zzu b.size h1)
  ·exact b.own o' c base' h1 h2
 ·rcases t.o0 c j hc with h1|h1|⟨o',base',h1,h2⟩
  ·exact b.o0 c j h1
  ·exact .inr (.inl (zzu b.size h1))
  ·exact .inr (b.own o' c base' h1 h2)
 ·obtain ⟨cs1,kA,h1,h2⟩:=b.ju c cs e fr h;obtain ⟨kX,rS,h3,h4⟩:=t.ext.ju c cs1 e kA h1;exact ⟨kX,rS,h3,h4.trans h2⟩
 ·obtain ⟨l1,h1⟩:=b.lp c l h;exact t.ext.lp c l1 h1
theorem mf.drawn {B g st w} (h:mf B g st w):mf B g st { w with drawn:=w.drawn+1 }:=
 h.step (fun o h1 h2=>by omega) ⟨zza _,Step.same (w:=w) rfl rfl rfl rfl⟩ (Ok.same (w:=w) rfl h.ok)
def Fin (B:dz) (nt:NT) (Q:QL):Exit->Act->World->Prop:=fun ex a w=>
 ∃ e L st g,ex=wg e/\Q e L st/\mf B g st w/\kj g w nt L a.tmps/\Marks B.D B.n0 st.h g w a.defers
theorem Fin.mk' {B nt Q e L st g} {a:Act} {w:World} (hq:Q e L st) (hc:mf B g st w) (hr:kj g w nt L a.tmps) (hd:Marks B.D B.n0 st.h g w a.defers):Fin B nt Q (wg e) a w:=⟨e,L,st,g,rfl,hq,hc,hr,hd⟩
def H7 (P:Program) (o:Oper) (a:Act) (w:World) (T:Value->World->Prop):Prop:=
 ∀ (ro:Option Nat) (N:Nat) (K:Act->World->Prop) (Q:Exit->Act->World->Prop),(∀ v w',T v w'->K (a.put o.dst v) w')->o.wpIn (fw ro) N P a w K Q
def Low (st:St):Prop:=∀ o x,st.h.get o=some x->o<st.nx
def ahd (P:Program) (f:Nat) (args:List AV) (m:M AV):Prop:=
 ∀ (g:Gh) (st:St) (w:World) (vs:List Value) (r:AV) (st':St),Ok g st.h w->qh g st st'->Low st->bz g w args vs->m st=some (r,st') ->
  (∃ v w' g',(callFunc f vs.toArray).run P w = .ok (.value v) w'/\Step g st.h w st.nx st'.nx g' st'.h w'/\Ok g' st'.h w'/\Rel g' w' r v) \/
  ((
   callFunc f vs.toArray).run P w = .ok (.enter f vs.toArray) w /\
   Calls P f vs.toArray w (fun e w'=>∃ v g',e = .returned v/\Step g st.h w st.nx st'.nx g' st'.h w'/\Ok g' st'.h w'/\Rel g' w' r v))
def Dz (P:Program) (f:Nat) (args:List AV) (m:M AV):Prop:=
 ∀ (g:Gh) (st:St) (w:World) (vs:List Value) (r:AV) (st':St),Ok g st.h w->qh g st st'->bz g w args vs->m st=some (r,st') ->
  (∃ v w' g',(callFunc f vs.toArray).run P w = .ok (.value v) w'/\Step g st.h w st.nx st'.nx g' st'.h w'/\Ok g' st'.h w'/\Rel g' w' r v) \/
  ((
   callFunc f vs.toArray).run P w = .ok (.enter f vs.toArray) w /\
   Calls P f vs.toArray w (fun e w'=>∃ v g',e = .returned v/\Step g st.h w st.nx st'.nx g' st'.h w'/\Ok g' st'.h w'/\Rel g' w' r v))
theorem Dz.toF {P:Program} [KP P] {f:Nat} {args:List AV} {m:M AV} (h:Dz P f args m):ahd P f args m:=fun g st w vs r st' h1 h2 _ h3 h4=>h g st w vs r st' h1 h2 h3 h4
def ak (P:Program) (T:fp):Prop:=∀ f b m,T.find f=some (b,m)->∀ args,Dz P f args (m args)
def S9 (P:Program) (T:fp):Prop:=∀ f b m,T.find f=some (b,m)->∀ args,ahd P f args (m args)
theorem ak.toF {P:Program} [KP P] {T:fp} (h:ak P T):S9 P T:=fun f b m hf args=>(h f b m hf args).toF
theorem Oh {P:Program} [KP P] {T:fp} {o:Oper} {ρ:Operand->AV} {st st':St} {r:AV} (h:il P T o ρ st=some (r,st')) :
 (∃ f args ts,o.op = .call { callee:=.value f,args,argTypes:=ts }/\Bs T (ρ f) (args.toList.map ρ) st=some (r,st'))\/mono (E9 P o ρ) st=some (r,st'):=by
 obtain ⟨dst,op,type,pos,after,guard⟩:=o;cases op with
 |call c=>
  obtain ⟨callee,args,ts⟩:=c;cases callee with
  |value f=>exact .inl ⟨f,args,ts,rfl,h⟩
  |_=>exact .inr h
 |_=>exact .inr h
theorem anm {P:Program} [KP P] {o:Oper} {a:Act} {g:Gh} {st st':St} {w:World} {ρ:Operand->AV} {r:AV} (aB:Ok g st.h w) (hf:qh g st st') (hr:qf g w ρ a.eval) (h:mono (E9 P o ρ) st=some (r,st')) :
 H7 P o a w (fun v w'=>∃ g',Step g st.h w st.nx st'.nx g' st'.h w'/\Ok g' st'.h w'/\Rel g' w' r v):=by
 obtain ⟨h1,hle⟩:=wy h;have hd:∀ c,o.op ≠ .defer c:=by intro c e;unfold E9 at h1;rw [e] at h1;cases h1
 obtain ⟨nx,w',g',q1,q2,q3,q4⟩:=alq (P:=P) aB hf hr h1;intro ro N K Q hK;refine ⟨ll ro P o a w,?_⟩;rw [Oper.semAt_eq _ _ _ hd,q1];rcases q4 with ⟨v,rfl,hv⟩|⟨rfl,rfl⟩
 ·exact hK v w' ⟨g',q2,q3,hv⟩
 ·exact hK undef w' ⟨g',q2,q3,.sc _⟩
theorem awy {P:Program} [KP P] {o:Oper} {a:Act} {g:Gh} {st st':St} {w:World} {r:AV} {h:Nat} {args:List AV} {vs:List Value} {m:M AV} (cR:∀ c,o.op ≠ .defer c) (aB:Ok g st.h w) (hf:qh g st st') (hlo:Low st)
 (hm:ahd P h args m) (hrel:bz g w args vs) (hrun:(execOp a.eval o).run P w=(callFunc h vs.toArray).run P w) (hst:m st=some (r,st')) :
 H7 P o a w (fun v w'=>∃ g',Step g st.h w st.nx st'.nx g' st'.h w'/\Ok g' st'.h w'/\Rel g' w' r v):=by
 intro ro N K Q hK;refine ⟨ll ro P o a w,?_⟩;rw [Oper.semAt_eq _ _ _ cR,hrun];rcases hm g st w vs r st' aB hf hlo hrel hst with ⟨v,w',g',q1,q2,q3,q4⟩|⟨q1,q2⟩
 ·rw [q1];exact hK v w' ⟨g',q2,q3,q4⟩
 ·rw [q1];refine ⟨(fun h=>(by cases h)),(ss (ro:=ro) (n:=N - 1) q2).mono ?_⟩;rintro e w' ⟨v,g',rfl,p2,p3,p4⟩;exact hK v w' ⟨g',p2,p3,p4⟩
theorem ata {P:Program} [KP P] {o:Oper} {a:Act} {g:Gh} {st st':St} {w:World} {r:AV} {h:Nat} {args:List AV} {vs:List Value} {m:M AV} (cR:∀ c,o.op ≠ .defer c) (aB:Ok g st.h w) (hf:qh g st st')
 (hm:Dz P h args m) (hrel:bz g w args vs) (hrun:(execOp a.eval o).run P w=(callFunc h vs.toArray).run P w) (hst:m st=some (r,st')) :
 H7 P o a w (fun v w'=>∃ g',Step g st.h w st.nx st'.nx g' st'.h w'/\Ok g' st'.h w'/\Rel g' w' r v):=by
 intro ro N K Q hK;refine ⟨ll ro P o a w,?_⟩;rw [Oper.semAt_eq _ _ _ cR,hrun];rcases hm g st w vs r st' aB hf hrel hst with ⟨v,w',g',q1,q2,q3,q4⟩|⟨q1,q2⟩
 ·rw [q1];exact hK v w' ⟨g',q2,q3,q4⟩
 ·rw [q1];refine ⟨(fun h=>(by cases h)),(ss (ro:=ro) (n:=N - 1) q2).mono ?_⟩;rintro e w' ⟨v,g',rfl,p2,p3,p4⟩;exact hK v w' ⟨g',p2,p3,p4⟩
theorem aFt {P:Program} [KP P] {T:fp} (hT:ak P T) {o:Oper} {a:Act} {g:Gh} {st st':St} {w:World} {ρ:Operand->AV} {r:AV} {f:Operand} {args:Array Operand} {ts:Array TypeId}
 (ho:o.op = .call { callee:=.value f,args,argTypes:=ts }) (aB:Ok g st.h w) (hf:qh g st st') (hr:qf g w ρ a.eval) (h:Bs T (ρ f) (args.toList.map ρ) st=some (r,st')) :
 H7 P o a w (fun v w'=>∃ g',Step g st.h w st.nx st'.nx g' st'.h w'/\Ok g' st'.h w'/\Rel g' w' r v):=by
 have aX:=hr.list args.toList;have go:∀ (k:Nat) (first captured:List AV) (va vb:Array Value),a.eval f = .func (.func k) va vb->bz g w first va.toList->bz g w captured vb.toList->Ay T k (first++args.toList.map ρ++captured) st=some (r,st') ->
  H7 P o a w (fun v w'=>∃ g',Step g st.h w st.nx st'.nx g' st'.h w'/\Ok g' st'.h w'/\Rel g' w' r v):=by
  intro k first captured va vb hfn h1 h2 hc
  unfold Ay at hc;cases fG:T.find k with
  |none=>rw [fG] at hc;cases hc
  |some p=>
   obtain ⟨b,m⟩:=p;rw [fG] at hc;refine ata (Kr ho) (vs:=va.toList++args.toList.map a.eval++vb.toList) aB hf (hT k b m fG _) ((h1.append aX).append h2) ?_ (wy hc).1;rw [Fl ho hfn]
   congr 2
   apply Array.ext';simp
 have hv:=hr f;unfold Bs at h;cases hx : ρ f with
 |fn fx first captured=>
  rw [hx] at h hv;simp only at h;cases fx with
  |func k=>
   have:∃ va vb,a.eval f = .func (.func k) va vb/\bz g w first va.toList/\bz g w captured vb.toList:=by
    generalize a.eval f=vf at hv;cases hv with
    |fn _ _ _ va vb hs hh hs' bH=>exact ⟨va,vb,rfl,⟨by simpa using hs,fun i x y hx hy=>hh i x y hx (by simpa using hy)⟩,⟨by simpa using hs',fun i x y hx hy=>bH i x y hx (by simpa using hy)⟩⟩
   obtain ⟨va,vb,e,h1,h2⟩:=this;exact go k first captured va vb e h1 h2 h
  |_=>cases h
 |sc x=>
  rw [hx] at h hv;simp only at h;cases x with
  |func fx first captured=>
   cases fx with
   |func k=>
    have e:=hv.exact rfl;exact go k _ _ first captured e (bz.Ke g w _) (bz.Ke g w _) h
   |_=>cases h
  |_=>cases h
 |_=>rw [hx] at h;cases h
theorem Gg {P:Program} [KP P] {T:fp} (hT:ak P T) {o:Oper} {a:Act} {g:Gh} {st st':St} {w:World} {ρ:Operand->AV} {r:AV} (aB:Ok g st.h w) (hf:qh g st st') (hr:qf g w ρ a.eval) (h:il P T o ρ st=some (r,st')) :
 H7 P o a w (fun v w'=>∃ g',Step g st.h w st.nx st'.nx g' st'.h w'/\Ok g' st'.h w'/\Rel g' w' r v):=by
 rcases Oh h with ⟨f,args,ts,ho,h1⟩|h1
 ·exact aFt hT ho aB hf hr h1
 ·exact anm aB hf hr h1
theorem aA7 {P:Program} [KP P] {T:fp} (hT:S9 P T) {o:Oper} {a:Act} {g:Gh} {st st':St} {w:World} {ρ:Operand->AV} {r:AV} {f:Operand} {args:Array Operand} {ts:Array TypeId}
 (ho:o.op = .call { callee:=.value f,args,argTypes:=ts }) (aB:Ok g st.h w) (hf:qh g st st') (hlo:Low st) (hr:qf g w ρ a.eval) (h:Bs T (ρ f) (args.toList.map ρ) st=some (r,st')) :
 H7 P o a w (fun v w'=>∃ g',Step g st.h w st.nx st'.nx g' st'.h w'/\Ok g' st'.h w'/\Rel g' w' r v):=by
 have aX:=hr.list args.toList;have go:∀ (k:Nat) (first captured:List AV) (va vb:Array Value),a.eval f = .func (.func k) va vb->bz g w first va.toList->bz g w captured vb.toList->Ay T k (first++args.toList.map ρ++captured) st=some (r,st') ->
  H7 P o a w (fun v w'=>∃ g',Step g st.h w st.nx st'.nx g' st'.h w'/\Ok g' st'.h w'/\Rel g' w' r v):=by
  intro k first captured va vb hfn h1 h2 hc
  unfold Ay at hc;cases fG:T.find k with
  |none=>rw [fG] at hc;cases hc
  |some p=>
   obtain ⟨b,m⟩:=p;rw [fG] at hc;refine awy (Kr ho) (vs:=va.toList++args.toList.map a.eval++vb.toList) aB hf hlo (hT k b m fG _) ((h1.append aX).append h2) ?_ (wy hc).1;rw [Fl ho hfn]
   congr 2
   apply Array.ext';simp
 have hv:=hr f;unfold Bs at h;cases hx : ρ f with
 |fn fx first captured=>
  rw [hx] at h hv;simp only at h;cases fx with
  |func k=>
   have:∃ va vb,a.eval f = .func (.func k) va vb/\bz g w first va.toList/\bz g w captured vb.toList:=by
    generalize a.eval f=vf at hv;cases hv with
    |fn _ _ _ va vb hs hh hs' bH=>exact ⟨va,vb,rfl,⟨by simpa using hs,fun i x y hx hy=>hh i x y hx (by simpa using hy)⟩,⟨by simpa using hs',fun i x y hx hy=>bH i x y hx (by simpa using hy)⟩⟩
   obtain ⟨va,vb,e,h1,h2⟩:=this;exact go k first captured va vb e h1 h2 h
  |_=>cases h
 |sc x=>
  rw [hx] at h hv;simp only at h;cases x with
  |func fx first captured=>
   cases fx with
   |func k=>
    have e:=hv.exact rfl;exact go k _ _ first captured e (bz.Ke g w _) (bz.Ke g w _) h
   |_=>cases h
  |_=>cases h
 |_=>rw [hx] at h;cases h
theorem aya {P:Program} [KP P] {T:fp} (hT:S9 P T) {o:Oper} {a:Act} {g:Gh} {st st':St} {w:World} {ρ:Operand->AV} {r:AV} (aB:Ok g st.h w) (hf:qh g st st') (hlo:Low st) (hr:qf g w ρ a.eval) (h:il P T o ρ st=some (r,st')) :
 H7 P o a w (fun v w'=>∃ g',Step g st.h w st.nx st'.nx g' st'.h w'/\Ok g' st'.h w'/\Rel g' w' r v):=by
 rcases Oh h with ⟨f,args,ts,ho,h1⟩|h1
 ·exact aA7 hT ho aB hf hlo hr h1
 ·exact anm aB hf hr h1
theorem J0 {P:Program} [KP P] {o:Oper} {a:Act} {g:Gh} {st:St} {w:World} {L:SL} {K:SL->St->Prop} (aB:Ok g st.h w) (hfr:∀ o,st.nx<=o->g.inj o=none) (hr:qf g w (eu L) a.eval) (h:Uv P o L st K) :
 H7 P o a w (fun v w'=>∃ g' r st',K (l8 o.dst r L) st'/\st.nx<=st'.nx/\Step g st.h w st.nx st'.nx g' st'.h w'/\Ok g' st'.h w'/\Rel g' w' r v):=by
 unfold Uv at h
 split at h
 ·rename_i f args ts ho;have aX:=hr.list args.toList;have go:∀ (k:Nat) (first captured:List AV) (va vb:Array Value),a.eval f = .func (.func k) va vb->bz g w first va.toList->bz g w captured vb.toList->iz P k (first++args.toList.map (eu L)++captured) st (dm K o.dst L) ->
   H7 P o a w (fun v w'=>∃ g' r st',K (l8 o.dst r L) st'/\st.nx<=st'.nx/\Step g st.h w st.nx st'.nx g' st'.h w'/\Ok g' st'.h w'/\Rel g' w' r v):=by
   intro k first captured va vb hfn h1 h2 hc
   have hrun:(execOp a.eval o).run P w=(callFunc k (va.toList++args.toList.map a.eval++vb.toList).toArray).run P w:=by
    rw [Fl ho hfn]
    congr 2
    apply Array.ext';simp
   intro ro N K' Q hK;refine ⟨ll ro P o a w,?_⟩;rw [Oper.semAt_eq _ _ _ (Kr ho),hrun];rcases hc g w _ aB hfr ((h1.append aX).append h2) with ⟨v,w',g',r,st',q1,q2,q3,q4,q5,q6⟩|⟨q1,q2⟩
   ·rw [q1];exact hK v w' ⟨g',r,st',q2,q3,q4,q5,q6⟩
   ·rw [q1];refine ⟨(fun h=>(by cases h)),(ss (ro:=ro) (n:=N - 1) q2).mono ?_⟩;rintro e w' ⟨v,g',r,st',rfl,p2,p3,p4,p5,p6⟩;exact hK v w' ⟨g',r,st',p2,p3,p4,p5,p6⟩
  have hv:=hr f;unfold au8 at h;cases hcv:acj (eu L f) (args.toList.map (eu L)) with
  |none=>rw [hcv] at h;exact h.elim
  |some p=>
  obtain ⟨k,xE⟩:=p;rw [hcv] at h;simp only at h;unfold acj at hcv;cases hx:eu L f with
  |fn fx first captured=>
   rw [hx] at hcv hv;simp only at hcv;cases fx with
   |func k=>
    cases hcv;have:∃ va vb,a.eval f = .func (.func k) va vb/\bz g w first va.toList/\bz g w captured vb.toList:=by
     generalize a.eval f=vf at hv;cases hv with
     |fn _ _ _ va vb hs hh hs' bH=>exact ⟨va,vb,rfl,⟨by simpa using hs,fun i x y hx hy=>hh i x y hx (by simpa using hy)⟩,⟨by simpa using hs',fun i x y hx hy=>bH i x y hx (by simpa using hy)⟩⟩
    obtain ⟨va,vb,e,h1,h2⟩:=this;exact go k first captured va vb e h1 h2 h
   |_=>cases hcv
  |sc x=>
   rw [hx] at hcv hv;simp only at hcv;cases x with
   |func fx first captured=>
    cases fx with
    |func k=>
     cases hcv;have e:=hv.exact rfl;exact go k _ _ first captured e (bz.Ke g w _) (bz.Ke g w _) h
    |_=>cases hcv
   |_=>cases hcv
  |_=>rw [hx] at hcv;cases hcv
 ·exact h.elim
theorem aAq {T:fp} {f:AV} {args:List AV} {st st':St} {r:AV} (h:Bs T f args st=some (r,st')):st.nx<=st'.nx:=by
 have one:∀ k args,Ay T k args st=some (r,st')->st.nx<=st'.nx:=by
  intro k args h;unfold Ay at h;cases fG:T.find k with
  |none=>rw [fG] at h;cases h
  |some p=>rw [fG] at h;exact (wy h).2
 have two:∀ k args,amk T k args st=some (r,st')->st.nx<=st'.nx:=by
  intro k args h;cases k with
  |func k=>exact one k args h
  |_=>cases h
 unfold Bs at h;cases f with
 |fn k a b=>exact two k _ h
 |sc x=>
  cases x with
  |func k a b=>exact two k _ h
  |_=>cases h
 |_=>cases h
theorem A2 {P:Program} [KP P] {T:fp} {o:Oper} {ρ:Operand->AV} {st st':St} {r:AV} (h:il P T o ρ st=some (r,st')):st.nx<=st'.nx:=by
 rcases Oh h with ⟨f,args,ts,ho,h1⟩|h1
 ·exact aAq h1
 ·exact (wy h1).2
theorem Yx {g w a v b} (h:Rel g w a v) (hb:a.bool=some b):v = .bool b:=by
 unfold AV.bool AV.exact ti at hb;cases a with
 |sc x=>
  have:=h.exact rfl;subst this;simp only [Option.bind_some] at hb
  split at hb
  ·simp at hb;subst hb;rfl
  ·cases hb
 |_=>cases hb
theorem Vj {a:AV} {x y:Prop} (h:u9 a x y):∃ v,a.bool=some v/\(v=true->x)/\(v=false->y):=by
 unfold u9 at h
 split at h
 ·rename_i v hv;exact ⟨v,hv,h⟩
 ·exact h.elim
theorem Zx {o:Option Bool} {x y:Prop} (h:Dx o x y):∃ b,o=some b/\(b=true->x)/\(b=false->y):=by
 unfold Dx at h
 split at h
 ·rename_i v;exact ⟨v,rfl,h⟩
 ·exact h.elim
theorem Zr {g w a v c b} (h:Rel g w a v) (hb:G1 a c=some b):K7 c v=b:=by
 unfold G1 AV.exact at hb;cases a with
 |sc x=>
  have:=h.exact rfl;subst this;simpa using hb
 |_=>cases hb
theorem V5 {ops:Array Oper} {tmps:Array Value} {j d:Nat} (c:Bool) (hd:((ops[j]?).bind (·.dst))=some d) (hlt:d<tmps.size):(yielded ops tmps j == some c)=K7 c (tmps.getD d undef):=by unfold yielded;rw [hd,Option.bind_some,zze,zz3 hlt,Option.getD_some];generalize tmps[d]=v;unfold K7;cases v<;>first|rfl|(cases c<;>rfl)
theorem zf {ops:Array Oper} {L:SL} {o:Oper} {x y:Prop} {g w nt} {a:Act} (hr:kj g w nt L a.tmps) (hs:∀ j b,o.guard=some (j,b)->∃ d,((ops[j]?).bind (·.dst))=some d/\d<nt.n) (h:guarded ops L o.guard x y) :
 (Region.wanted o (yielded ops a.tmps)=true/\x)\/(Region.wanted o (yielded ops a.tmps)=false/\y):=by
 unfold guarded at h;unfold Region.wanted;cases hg:o.guard with
 |none=>rw [hg] at h;exact .inl ⟨rfl,h⟩
 |some q=>
  obtain ⟨j,b⟩:=q;obtain ⟨d,hd,hlt⟩:=hs j b hg;rw [hg] at h;have tP:yr ops j=d:=by unfold yr;rw [hd];rfl
  simp only [tP] at h;dsimp only;obtain ⟨c,hc,h1,h2⟩:=Zx h;rw [V5 b hd (by rw [hr.1.size];exact hlt),Zr (hr.2 d) hc];cases c with
  |true=>exact .inl ⟨rfl,h1 rfl⟩
  |false=>exact .inr ⟨rfl,h2 rfl⟩
theorem nh {nt:NT} {ops:Array Oper} (h:sj nt ops=true) {o:Oper} (ho:o ∈ ops):∀ d,o.dst=some d->nt.has d=true:=by intro d hd;unfold sj at h;rw [Array.all_eq_true_iff_forall_mem] at h;have:=h o ho;rw [hd] at this;simpa using this
theorem Be {nt:NT} {ops:Array Oper} (h:n5 nt ops=true) {o:Oper} (ho:o ∈ ops):∀ j b,o.guard=some (j,b)->∃ d,((ops[j]?).bind (·.dst))=some d/\d<nt.n:=by
 intro j b hg;unfold n5 at h;rw [Array.all_eq_true_iff_forall_mem] at h;have:=h o ho;rw [hg] at this;simp only at this
 split at this
 ·rename_i d hd;exact ⟨d,hd,by simpa using this⟩
 ·cases this
theorem aqo {P:Program} [KP P] {T:fp} (hT:ak P T) {ops:Array Oper} {ro:Option Nat} {N:Nat} {B:dz} {nt:NT} {Q:Exit->Act->World->Prop} {K:SL->St->Prop} (aF:B.iw) (hg:n5 nt ops=true) (hd:sj nt ops=true)
 (hK:∀ L st g w a,K L st->mf B g st w->kj g w nt L a.tmps->Marks B.D B.n0 st.h g w a.defers->Q .normal a w) :
 ∀ (l:List Oper) (is:List Nat),(∀ o ∈ l,o ∈ ops)->is.map (fun i=>ops[i]?)=l.map some->∀ L st g w a,opsL P T ops l K L st->mf B g st w->kj g w nt L a.tmps->Marks B.D B.n0 st.h g w a.defers->wpOpsIn (fw ro) N P ops Q is a w:=by
 intro l
 induction l with
 |nil=>
  intro is _ aK L st g w a h hc hr cH;cases is with
  |nil=>exact hK L st g w a h hc hr cH
  |cons i is=>cases aK
 |cons o l ih=>
  intro is hmem aK L st g w a h hc hr cH;cases is with
  |nil=>cases aK
  |cons i is=>
   simp only [List.map_cons,List.cons.injEq] at aK;obtain ⟨hi,aK⟩:=aK;have ho:=hmem o (by simp);simp only [wpOpsIn,hi];rcases zf hr (Be hg ho) h with ⟨hw,h1⟩|⟨hw,h1⟩
   ·rw [hw,if_pos rfl];unfold Pf En at h1;cases hop:il P T o (eu L) st with
    |none=>
     rw [hop] at h1;refine J0 hc.ok (fun o ho=>hc.fresh o ho (aF o)) hr.eval h1 ro N _ _ ?_;rintro u w' ⟨g',v,st',q0,q1,q2,q3,q4⟩;exact ih is (fun o ho=>hmem o (by simp [ho])) aK _ st' g' w' _ q0 (hc.step (aF.vw _ _) ⟨q1,q2⟩ q3) ((hr.ext q2.ext).put q4 (nh hd ho)) (by rw [put_defers];exact cH.step q2)
    |some p=>
     obtain ⟨v,st'⟩:=p;rw [hop] at h1;refine Gg hT hc.ok (hc.free (aF.vw _ _)) hr.eval hop ro N _ _ ?_;rintro u w' ⟨g',q1,q2,q3⟩;exact ih is (fun o ho=>hmem o (by simp [ho])) aK _ st' g' w' _ h1 (hc.step (aF.vw _ _) ⟨A2 hop,q1⟩ q2) ((hr.ext q1.ext).put q3 (nh hd ho)) (by rw [put_defers];exact cH.step q1)
   ·rw [hw,if_neg (by simp)];refine ⟨ll ro P o a w,?_⟩;exact ih is (fun o ho=>hmem o (by simp [ho])) aK _ st g w _ h1 hc (hr.put (.sc _) (nh hd ho)) (by rw [put_defers];exact cH)
theorem Lh (ops:Array Oper):(List.range ops.size).map (fun i=>ops[i]?)=ops.toList.map some:=by
 apply List.ext_getElem?;intro i;simp only [zzj];by_cases h:i<ops.size
 ·simp [h]
 ·simp [h]
theorem kr (τ:Nat->Option Nat):∀ l:List AV,AV.cx.go τ l=l.map (AV.cx τ)
 | []=>rfl
 |a::r=>by simp [AV.cx.go,kr τ r]
theorem aei (τ:Nat->Option Nat) (a:AV):(a.cx τ).cells=a.cells.map (AV.cx τ):=by cases a<;>simp only [AV.cx]<;>(try split)<;>simp_all [AV.cells,AV.cx,kr]
def Gh.cx (g:Gh) (N:List Nat):Gh:={ g with inj:=fun i=>(N[i]?).bind g.inj }
theorem Rel.cx {g w} {τ:Nat->Option Nat} {N:List Nat} (hτ:∀ o p,τ o=some p->N[p]? = some o) {a:AV} {v:Value} (h:Rel g w a v):Rel (g.cx N) w (a.cx τ) v:=by
 have hi:∀ o p q,τ o=some p->g.inj o=some q->(g.cx N).inj p=some q:=by intro o p q h1 h2;simp [Gh.cx,hτ o p h1,h2]
 induction h with
 |sc x=>exact .sc x
 |agg l vs hs _ ih=>simp only [AV.cx,kr];exact .agg _ vs (by simp [hs]) (fun i a v ha hv=>by rw [zzj,zzk] at ha;obtain ⟨b,hb,rfl⟩:=ha;exact ih i b v hb hv)
 |gj l vs hs _ ih=>simp only [AV.cx,kr];exact .gj _ vs (by simp [hs]) (fun i a v ha hv=>by rw [zzj,zzk] at ha;obtain ⟨b,hb,rfl⟩:=ha;exact ih i b v hb hv)
 |vl loc sz es b off cap c hsz hl aR h _ hw ih=>
  have pY:(es.map (AV.cx τ)).flatMap AV.cells=(es.flatMap AV.cells).map (AV.cx τ):=by rw [List.flatMap_map,List.map_flatMap];congr 1;funext x;exact aei τ x
  simp only [AV.cx,kr];have:=Rel.vl (g:=g.cx N) (w:=w) loc sz (es.map (AV.cx τ)) b off cap c (fun e he=>by
   obtain ⟨x,hx,rfl⟩:=zyl.1 he;rw [aei];simp [hsz x hx]) hl (by simpa using aR)
   (fun j a hj=>by rw [pY,zzj,zzk] at hj;obtain ⟨x,hx,rfl⟩:=hj;exact h j x hx)
   (fun j a hj=>by rw [pY,zzj,zzk] at hj;obtain ⟨x,hx,rfl⟩:=hj;exact ih j x hx) (fun e=>by have:=hw e;rw [zzo];exact ⟨this.K,this.ju,this.none,this.cm⟩)
  simpa using this
 |ni loc sz=>exact .ni loc sz
 |xk loc sz a=>exact .xk loc sz a
 |sl o off len sz b base cap h1 hc hm hr=>
  simp only [AV.cx];cases hp : τ o with
  |none=>exact .bad _
  |some p=>exact .sl p off len sz b base cap (hi o p _ hp h1) hc hm hr
 |ug o off sz a=>
  simp only [AV.cx];cases hp : τ o with
  |none=>exact .bad _
  |some p=>exact .ug p off sz a
 |uw o off sz=>
  simp only [AV.cx];cases hp : τ o with
  |none=>exact .bad _
  |some p=>exact .uw p off sz
 |ez a=>exact .ez a
 |ptr o off b base h1=>
  simp only [AV.cx];cases hp : τ o with
  |none=>exact .bad _
  |some p=>exact .ptr p off b base (hi o p _ hp h1)
 |ik l b off c h _ ih=>
  simp only [AV.cx,kr];exact .ik _ b off c (fun j a hj=>by rw [zzj,zzk] at hj;obtain ⟨x,hx,rfl⟩:=hj;exact h j x hx)
   (fun j a hj=>by rw [zzj,zzk] at hj;obtain ⟨x,hx,rfl⟩:=hj;exact ih j x hx)
 |fn f first captured va vb hs _ hs' _ ih ih'=>
  simp only [AV.cx,kr];exact .fn f _ _ va vb (by simp [hs]) (fun i a v ha hv=>by rw [zzj,zzk] at ha;obtain ⟨b,hb,rfl⟩:=ha;exact ih i b v hb hv)
   (by simp [hs']) (fun i a v ha hv=>by rw [zzj,zzk] at ha;obtain ⟨b,hb,rfl⟩:=ha;exact ih' i b v hb hv)
 |mp o b base h1=>
  simp only [AV.cx];cases hp : τ o with
  |none=>exact .bad _
  |some p=>exact .mp p b base (hi o p _ hp h1)
 |vv t a v _ ih=>exact .vv t _ v ih
 |yl o b base h1=>exact .bad _
 |bad v=>exact .bad v
theorem oy.cx {g w b base} {τ:Nat->Option Nat} {N:List Nat} (hτ:∀ o p,τ o=some p->N[p]? = some o) {x y:bk} (h:oy g w b base x) (hy:x.cx τ=some y):oy (g.cx N) w b base y:=by
 cases x with
 |row cells k st et=>
  simp only [bk.cx,Option.some.injEq] at hy;subst hy;obtain ⟨cs,fr,h1,h2,h3,h4,h5,h6,h7⟩:=h;rw [kr];exact ⟨cs,fr,h1,by simpa using h2,fun j a ha=>by rw [zzj,zzk] at ha;obtain ⟨x,hx,rfl⟩:=ha;obtain ⟨c,hc,hr⟩:=h3 j x hx;exact ⟨c,hc,hr.cx hτ⟩,h4,h5,h6,by simpa using h7⟩
 |map es=>
  simp only [bk.cx,Option.some.injEq] at hy;subst hy;obtain ⟨h0,ms,clock,h1,h2⟩:=h;refine ⟨h0,ms,clock,h1,h2.same (by simp) (fun hl=>?_) fun i e v he=>?_⟩
  ·have key:∀ (l:List (Value × AV)) (f:Value × AV->Value × AV),(∀ e,(f e).1=e.1)->Hi (l.map f)=Hi l:=by
    intro l f hf
    induction l with
    |nil=>rfl
    |cons a l ih=>simp only [List.map_cons,Hi,ih,List.all_map];congr 2;funext x;simp [hf]
   unfold loose at hl ⊢;rw [key es (fun e=>(e.1,e.2.cx τ)) (fun _=>rfl)];simpa using hl
  ·rw [zzj,zzk] at he;obtain ⟨x,hx,rfl⟩:=he;exact ⟨x,hx,rfl,fun hr=>hr.cx hτ⟩
 |loop=>cases hy
theorem Pk (a:Nat) (l:List Nat) (o i:Nat):idx (a::l) o i=if a=o then some i else idx l o (i+1):=by
 show (bif Nat.beq a o then some i else idx l o (i+1))=_;by_cases h:a=o
 ·subst h;simp
 ·rw [if_neg h,uk h];rfl
theorem arz:∀ (l:List Nat) (o i p:Nat),idx l o i=some p->i<=p/\l[p - i]? = some o
 | [],o,i,p,h=>by cases h
 |a::l,o,i,p,h=>by
  rw [Pk] at h;by_cases e:a=o
  ·rw [if_pos e] at h;simp at h;subst h;subst e;simp
  ·rw [if_neg e] at h;obtain ⟨h1,h2⟩:=arz l o (i+1) p h;refine ⟨zO,?_⟩;rw [show p - i=(p - (i+1))+1 from by omega];simpa using h2
theorem I4 (l:List Nat) (o p:Nat) (h:idx l o 0=some p):l[p]? = some o:=by simpa using (arz l o 0 p h).2
theorem C5 (h:Tr bk):∀ (n:Nat) (todo acc:List Nat),acc.Nodup->(reach h n todo acc).Nodup/\(∃ r,reach h n todo acc=acc++r)/\(reach h n todo acc).length<=acc.length+n:=by
 intro n
 induction n with
 |zero=>intro todo acc hn;exact ⟨by simpa [reach] using hn,⟨[],by simp [reach]⟩,by simp [reach]⟩
 |succ n ih=>
  intro todo acc hn;cases todo with
  |nil=>exact ⟨by simpa [reach] using hn,⟨[],by simp [reach]⟩,by simp [reach]⟩
  |cons o r=>
   simp only [reach];cases hc:acc.contains o with
   |true=>
    obtain ⟨h1,h2,h3⟩:=ih r acc hn;exact ⟨h1,h2,by simp only [cond_true];omega⟩
   |false=>
    simp only [cond_false];have hno:o ∉ acc:=by simpa using hc
    cases hg:h.get o with
    |none=>
     obtain ⟨h1,h2,h3⟩:=ih r acc hn;exact ⟨h1,h2,by dsimp only;omega⟩
    |some x=>
     have hn':(acc++[o]).Nodup:=by rw [List.nodup_append];exact ⟨hn,by simp,fun a ha b hb=>by simp at hb;subst hb;intro e;subst e;exact hno ha⟩
     obtain ⟨h1,⟨q,h2⟩,h3⟩:=ih (x.names++r) (acc++[o]) hn';refine ⟨h1,⟨o::q,by simp [h2]⟩,?_⟩;simp only [za,zyi] at h3;dsimp only;omega
theorem Bl:∀ (n lo i:Nat),i<n->(ff lo n)[i]? = some (lo+i)
 |0,lo,i,h=>by omega
 |n+1,lo,0,h=>by simp [ff]
 |n+1,lo,i+1,h=>by rw [ff,List.getElem?_cons_succ,Bl n (lo+1) i zO,zym,Nat.add_comm 1 i]
theorem qe:∀ (n lo o:Nat),o ∈ ff lo n↔lo<=o/\o<lo+n
 |0,lo,o=>by simp [ff]
 |n+1,lo,o=>by rw [ff,zyb,qe n (lo+1) o];omega
theorem j8:∀ (n lo:Nat),(ff lo n).length=n
 |0,_=>rfl
 |n+1,lo=>by simp [ff,j8 n]
theorem vh:∀ (n lo:Nat),(ff lo n).Nodup
 |0,_=>by simp [ff]
 |n+1,lo=>by rw [ff,List.nodup_cons];exact ⟨by rw [qe];omega,vh n (lo+1)⟩
theorem wo:∀ (os:List (Option bk)) (i j:Nat),i+os.length<=cz+1->(ov i os).get j=if i<=j then (os[j - i]?).join else none
 | [],i,j,_=>by simp [ov,Tr.get_nil]
 |x::r,i,j,h=>by
  simp only [List.length_cons] at h;rw [ov,gp _ _ _ _ zO,wo r (i+1) j zO];by_cases e:j=i
  ·subst e;simp
  ·rw [if_neg e];by_cases h1:i+1<=j
   ·rw [if_pos h1,if_pos zO,show j - i=(j - (i+1))+1 from by omega,List.getElem?_cons_succ]
   ·rw [if_neg h1,if_neg zO]
theorem yj (h:Tr bk) (τ:Nat->Option Nat):∀ (l:List Nat) (i:Nat),(ky h τ l)[i]? = (l[i]?).map (fun o=>(h.get o).bind (bk.cx τ))
 | [],i=>by simp [ky]
 |o::r,0=>by simp [ky]
 |o::r,i+1=>by simp [ky,yj h τ r i]
theorem kb (h:Tr bk) (τ:Nat->Option Nat):∀ l:List Nat,(ky h τ l).length=l.length
 | []=>rfl
 |_::r=>by simp [ky,kb h τ r]
theorem aco:∀ (keep:List Nat) (f:Nat->AV) (t:Nat),lk (fm keep (keep.map f)) t=if t ∈ keep then f t else .bad
 | [],f,t=>by simp [fm,lk]
 |k::ks,f,t=>by
  simp only [List.map_cons,fm,pq,aco ks f t,zyb];by_cases e:k=t
  ·subst e;simp
  ·rw [if_neg e];by_cases h:t ∈ ks
   ·simp [h]
   ·simp [h,Ne.symm e]
theorem Jh {B:dz} {nt:NT} {g:Gh} {st:St} {w:World} {L:SL} {tmps:Array Value} (aF:B.iw) (hp:B.bg<=1000) (keep:List Nat) (hc:mf B g st w) (hr:kj g w nt L tmps) :
 mf B (g.cx (jx B.bg keep L st)) (ay (gk B.bg keep L st)) w/\kj (g.cx (jx B.bg keep L st)) w nt (fm keep (dq B.bg keep L st)) tmps:=by
 have hN:=C5 st.h gu (AV.names.go (keep.map (lk L))++sw st.h (ff 0 B.bg)) (ff 0 B.bg) (vh _ _);change (jx B.bg keep L st).Nodup/\(∃ r,jx B.bg keep L st=ff 0 B.bg++r)/\(jx B.bg keep L st).length<=_ at hN;have hτ:∀ o p,(fun o=>idx (jx B.bg keep L st) o 0) o=some p->(jx B.bg keep L st)[p]? = some o:=fun o p h=>I4 _ o p h
 unfold gk dq;generalize jx B.bg keep L st=N at hN hτ;obtain ⟨cR,⟨rest,hpre⟩,hlen⟩:=hN;rw [j8] at hlen;have aD:N.length<=cz:=by simp only [gu,cz] at *;omega
 have fk:∀ i x,(ay (ky st.h (fun o=>idx N o 0) N)).h.get i=some x->∃ o y,N[i]? = some o/\st.h.get o=some y/\y.cx (fun o=>idx N o 0)=some x:=by
  intro i x hx;simp only [ay] at hx;rw [wo _ _ _ (by rw [kb];omega),if_pos (zzb _),Nat.sub_zero,yj] at hx;cases hi:N[i]? with
  |none=>rw [hi] at hx;cases hx
  |some o=>
   rw [hi] at hx;simp only [Option.map_some,Option.join_some] at hx;cases hy:st.h.get o with
   |none=>rw [hy] at hx;cases hx
   |some y=>rw [hy] at hx;exact ⟨o,y,rfl,hy,hx⟩
 have aO:∀ i o,N[i]? = some o->(g.cx N).inj i=g.inj o:=fun i o h=>by simp [Gh.cx,h]
 refine ⟨⟨⟨hc.ok.size,fun i x hx=>?_,fun i j x y b base base' cJ hx hy hb hb'=>?_,hc.ok.K⟩,fun i hi=>?_,?_,?_⟩,hr.1,fun t=>?_⟩
 ·obtain ⟨o,y,h1,h2,h3⟩:=fk i x hx;refine (hc.ok.px o y h2).imp (fun q=>⟨by rw [aO i o h1];exact q.1,by obtain ⟨s0,e0,rfl⟩:=q.2;simp only [bk.cx,AV.cx.go,Option.some.injEq] at h3;exact ⟨s0,e0,h3.symm⟩⟩) ?_;rintro ⟨b,base,q1,q2,q3⟩;exact ⟨b,base,by rw [aO i o h1];exact q1,q2,q3.cx hτ h3⟩
 ·obtain ⟨o,y1,h1,h2,_⟩:=fk i x hx;obtain ⟨o',y2,h1',h2',_⟩:=fk j y hy;rw [aO i o h1] at hb;rw [aO j o' h1'] at hb';have hne:o≠o':=by
   intro e;subst e;obtain ⟨hi,ei⟩:=zg.1 h1;obtain ⟨hj,ej⟩:=zg.1 h1';exact cJ ((List.getElem_inj cR).1 (ei.trans ej.symm))
  exact hc.ok.sep o o' _ _ b base base' hne h2 h2' hb hb'
 ·simp only [ay,kb] at hi;intro _;simp [Gh.cx,zzy hi]
 ·have b:=hc.base;refine ⟨b.b0,fun o ho=>?_,b.K,b.cell,b.size,b.os,b.tape,b.output,b.frame,fun i c base hi hj=>?_,b.o0,b.ju,b.lp,b.whole⟩
  ·have ho:=ho.resolve_right (aF o);rw [aO o o (by rw [hpre,zzi (by rw [j8];exact ho),Bl _ _ _ ho,Nat.zero_add])];exact b.pins o (.inl ho)
  ·obtain ⟨x,hx⟩:=zzv.1 hi;obtain ⟨o,y,h1,h2,_⟩:=fk i x hx;rw [aO i o h1] at hj;exact b.own o c base (by rw [h2];rfl) hj
 ·simp only [ay,kb];rw [hpre,za,j8];omega
 ·rw [kr,List.map_map,aco];by_cases h:t ∈ keep
  ·rw [if_pos h];exact (hr.2 t).cx hτ
  ·rw [if_neg h];exact .bad _
def wz (bg:Nat) (vs:List AV) (os:List (Option bk)):List Nat:=reach (ay os).h gu (AV.names.go vs++sw (ay os).h (ff 0 bg)) (ff 0 bg)
theorem kh.canon {bg:Nat} {vs:List AV} {os:List (Option bk)} (hp:bg<=1000) :
 kh bg vs os (AV.cx.go (fun o=>idx (wz bg vs os) o 0) vs) (ky (ay os).h (fun o=>idx (wz bg vs os) o 0) (wz bg vs os)):=by
 have hN:=C5 (ay os).h gu (AV.names.go vs++sw (ay os).h (ff 0 bg)) (ff 0 bg) (vh _ _);change (wz bg vs os).Nodup/\(∃ r,wz bg vs os=ff 0 bg++r)/\(wz bg vs os).length<=_ at hN;have hτ:∀ o p,(fun o=>idx (wz bg vs os) o 0) o=some p->(wz bg vs os)[p]? = some o:=fun o p h=>I4 _ o p h
 generalize wz bg vs os=N at hN hτ;obtain ⟨cR,⟨rest,hpre⟩,hlen⟩:=hN;rw [j8] at hlen;have aD:N.length<=cz:=by simp only [gu,cz] at *;omega
 refine ⟨by rw [kr,zzo],fun _=>by rw [kb,hpre,za,j8];omega,fun g w us aB hf hr=>⟨g.cx N,?_⟩⟩;have fk:∀ i x,(ay (ky (ay os).h (fun o=>idx N o 0) N)).h.get i=some x->∃ o y,N[i]? = some o/\(ay os).h.get o=some y/\y.cx (fun o=>idx N o 0)=some x:=by
  intro i x hx;rw [show (ay (ky (ay os).h (fun o=>idx N o 0) N)).h=ov 0 (ky (ay os).h (fun o=>idx N o 0) N) from rfl,wo _ _ _ (by rw [kb];omega),if_pos (zzb _),Nat.sub_zero,yj] at hx;cases hi:N[i]? with
  |none=>rw [hi] at hx;cases hx
  |some o=>
   rw [hi] at hx;simp only [Option.map_some,Option.join_some] at hx;cases hy:(ay os).h.get o with
   |none=>rw [hy] at hx;cases hx
   |some y=>rw [hy] at hx;exact ⟨o,y,rfl,hy,hx⟩
 have aO:∀ i o,N[i]? = some o->(g.cx N).inj i=g.inj o:=fun i o h=>by simp [Gh.cx,h]
 refine ⟨⟨aB.size,fun i x hx=>?_,fun i j x y b base base' cJ hx hy hb hb'=>?_,aB.K⟩,?_,rfl,fun o ho=>?_,fun o ho=>?_,fun _ _ h=>h,fun i b base hi hj=>?_,fun _ _ h=>.inl h⟩
 ·obtain ⟨o,y,h1,h2,h3⟩:=fk i x hx;refine (aB.px o y h2).imp (fun q=>⟨by rw [aO i o h1];exact q.1,by obtain ⟨s0,e0,rfl⟩:=q.2;simp only [bk.cx,AV.cx.go,Option.some.injEq] at h3;exact ⟨s0,e0,h3.symm⟩⟩) ?_;rintro ⟨b,base,q1,q2,q3⟩;exact ⟨b,base,by rw [aO i o h1];exact q1,q2,q3.cx hτ h3⟩
 ·obtain ⟨o,y1,h1,h2,_⟩:=fk i x hx;obtain ⟨o',y2,h1',h2',_⟩:=fk j y hy;rw [aO i o h1] at hb;rw [aO j o' h1'] at hb';have hne:o≠o':=by
   intro e;subst e;obtain ⟨hi,ei⟩:=zg.1 h1;obtain ⟨hj,ej⟩:=zg.1 h1';exact cJ ((List.getElem_inj cR).1 (ei.trans ej.symm))
  exact aB.sep o o' _ _ b base base' hne h2 h2' hb hb'
 ·rw [kr];refine ⟨by simpa using hr.1,fun i a v ha hv=>?_⟩;rw [zzj,zzk] at ha;obtain ⟨x,hx,rfl⟩:=ha;exact (hr.2 i x v hx hv).cx hτ
 ·rw [kb] at ho;simp [Gh.cx,zzy ho]
 ·rw [aO o o (by rw [hpre,zzi (by rw [j8];exact ho),Bl _ _ _ ho,Nat.zero_add])]
 ·obtain ⟨x,hx⟩:=zzv.1 hi;obtain ⟨o,y,h1,h2,_⟩:=fk i x hx;rw [aO i o h1] at hj;exact ⟨o,base,by rw [h2];rfl,hj⟩
theorem Ag {B:dz} {D:List Deferred} {n0:Nat} {g:Gh} {st:St} {w:World} {L:SL} {ds:List Deferred} (hp:B.bg<=1000) (keep:List Nat) (hd:Marks D n0 st.h g w ds) :
 Marks D n0 (ay (gk B.bg keep L st)).h (g.cx (jx B.bg keep L st)) w ds:=by
 have hN:=C5 st.h gu (AV.names.go (keep.map (lk L))++sw st.h (ff 0 B.bg)) (ff 0 B.bg) (vh _ _);change (jx B.bg keep L st).Nodup/\(∃ r,jx B.bg keep L st=ff 0 B.bg++r)/\(jx B.bg keep L st).length<=_ at hN;unfold gk;generalize jx B.bg keep L st=N at hN;obtain ⟨cR,⟨rest,hpre⟩,hlen⟩:=hN;rw [j8] at hlen;have aD:N.length<=cz:=by simp only [gu,cz] at *;omega
 obtain ⟨bs,h1,h2,h3⟩:=hd;refine ⟨bs,h1,h2,fun b hb=>⟨(h3 b hb).1,(h3 b hb).2.1,fun i base hi hj=>?_⟩⟩;obtain ⟨x,hx⟩:=zzv.1 hi;simp only [ay] at hx;rw [wo _ _ _ (by rw [kb];omega),if_pos (zzb _),Nat.sub_zero,yj] at hx;cases hi':N[i]? with
 |none=>rw [hi'] at hx;cases hx
 |some o=>
  rw [hi'] at hx;simp only [Option.map_some,Option.join_some] at hx;cases hy:st.h.get o with
  |none=>rw [hy] at hx;cases hx
  |some y=>
   have:(g.cx N).inj i=g.inj o:=by simp [Gh.cx,hi']
   rw [this] at hj;exact (h3 b hb).2.2 o base (by rw [hy];rfl) hj
theorem D1 {F:Fence} {n:Nat} {P:Program} [KP P] {c:Code} {Q:Exit->Act->World->Prop} {a:Act} {w:World} (h:∀ X:Act->World->Prop,(∀ a w,c.wpIn F n P (Exit.then X Q) a w->X a w)->X a w):(Code.loop c).wpIn F n P Q a w:=by
 intro b k cs hro hb hr;have key:=h (fun a w=>∃ e a' w',Q e a' w'/\ArrivesIn (Machine.fenced P F) P (lone (b.atR a (.code c :: .inLoop c::k)) cs w) b k cs e a' w') (fun a w hw=>by
  obtain ⟨e,a₁,w₁,hq,harr⟩:=hw b (.inLoop c::k) cs hro hb hr;cases e with
  |normal=>
   obtain ⟨e₂,a₂,w₂,yX,qI⟩:=hq;exact ⟨e₂,a₂,w₂,yX,.of_steps (StepsIn.trans harr (.one (fenced_calm hb hr rfl) stepR_inLoop)) qI⟩
  |exit id=>exact ⟨_,a₁,w₁,hq,.pass (x:=.inLoop c) rfl (fun _ _=>.inl (by simp)) harr⟩
  |goto l=>exact ⟨_,a₁,w₁,hq,.pass (x:=.inLoop c) rfl (fun _ _=>.inl (by simp)) harr⟩
  |ret=>exact ⟨_,a₁,w₁,hq,.pass (x:=.inLoop c) rfl (fun _ _=>.inl (by simp)) harr⟩
  |panic ch=>exact ⟨_,a₁,w₁,hq,.pass (x:=.inLoop c) rfl (fun _ _=>.inl (by simp)) harr⟩
  |outgrown=>exact ⟨_,a₁,w₁,hq,.pass (x:=.inLoop c) rfl (fun _ _=>.inl (by simp)) harr⟩)
 obtain ⟨e,a',w',hq,harr⟩:=key;exact ⟨e,a',w',hq,.of_steps (.one (fenced_calm hb hr rfl) stepR_loop) harr⟩
def Wu (P:Program) (ro:Option Nat) (N:Nat) (B:dz) (nt:NT) (c:Code) (W:QL->SL->St->Prop):Prop:=
 ∀ (Q:QL) (L:SL) (st:St) (g:Gh) (w:World) (a:Act),W Q L st->mf B g st w->kj g w nt L a.tmps->Marks B.D B.n0 st.h g w a.defers->c.wpIn (fw ro) N P (Fin B nt Q) a w
theorem asi (bg:Nat) (keep:List Nat) (L:SL) (st:St):dq bg keep L st=keep.map (fun t=>(lk L t).cx (fun o=>idx (jx bg keep L st) o 0)):=by unfold dq;rw [kr,List.map_map];rfl
theorem ayv {g w nt} {keep:List Nat} {L:SL} {tmps:Array Value} (f:Nat->AV) (hr:kj g w nt (fm keep (keep.map f)) tmps):bz g w (keep.map f) (keep.map fun t=>tmps.getD t undef):=by refine ⟨by simp,fun i a v ha hv=>?_⟩;rw [zzj,zzk] at ha hv;obtain ⟨t,ht,rfl⟩:=ha;obtain ⟨t',vT,rfl⟩:=hv;rw [ht] at vT;cases vT;have:=hr.2 t;rw [aco,if_pos (zm ht)] at this;exact this
theorem avh {g w nt} {tmps:Array Value} (hs:tk nt tmps):∀ (keep:List Nat) (vs:List AV),bz g w vs (keep.map fun t=>tmps.getD t undef)->kj g w nt (fm keep vs) tmps:=by
 intro keep vs h;refine ⟨hs,fun t=>?_⟩
 induction keep generalizing vs with
 |nil=>exact .bad _
 |cons k ks ih=>
  cases vs with
  |nil=>exact .bad _
  |cons v vs=>
   rw [List.map_cons] at h;simp only [fm,pq];by_cases e:k=t
   ·subst e;rw [if_pos rfl];exact h.head
   ·rw [if_neg e];exact ih vs h.tail
theorem I3 {B:dz} {nt:NT} {g:Gh} {st:St} {w:World} {L:SL} {tmps:Array Value} (aF:B.iw) (hp:B.bg<=1000) (keep:List Nat) {X:List AV->List (Option bk)->Prop} (h:upW B.bg X (dq B.bg keep L st) (gk B.bg keep L st)) (hc:mf B g st w) (hr:kj g w nt L tmps) :
 ∃ vs os g',X vs os/\mf B g' (ay os) w/\kj g' w nt (fm keep vs) tmps/\(∀ D n0 ds,Marks D n0 (ay (gk B.bg keep L st)).h (g.cx (jx B.bg keep L st)) w ds->Marks D n0 (ay os).h g' w ds)/\(∀ b,ja (g.cx (jx B.bg keep L st)) (ay (gk B.bg keep L st)).h b->ja g' (ay os).h b):=by
 obtain ⟨vs',os',hw,hx⟩:=h;have:=Jh aF hp keep hc hr;have hv:=asi B.bg keep L st;have hrl:=this.2;rw [hv] at hrl;have hk:=ayv (L:=L) _ hrl;rw [<- hv] at hk;obtain ⟨h1,h2,h3⟩:=hw;obtain ⟨g',q1,q2,q3,q4,xY,q5,q6,q7⟩:=h3 _ w _ this.1.ok (fun o ho=>this.1.fresh o (by simpa [ay] using ho) (aF o)) hk;have b:=this.1.base;refine ⟨vs',os',g',hx,⟨q1,fun o ho hf=>q4 o (by simpa [ay] using ho),⟨q3.trans b.b0,fun o ho=>by rw [xY o (ho.resolve_right (aF o))];exact b.pins o ho,fun b' j hk=>q5 _ _ (b.K b' j hk),b.cell,b.size,b.os,b.tape,b.output,b.frame,fun o c base ho hi=>?_,fun c j hk=>?_,b.ju,b.lp,b.whole⟩,by have:=h2 (by simpa [ay] using this.1.bg);simpa [ay] using this⟩,avh hr.1 keep vs' q2,fun D n0 ds hm=>?_,fun b hu o base ho hi=>by obtain ⟨o2,aJ,e1,e2⟩:=q6 o _ base ho hi;exact hu o2 aJ e1 e2⟩
 ·obtain ⟨o2,aJ,e1,e2⟩:=q6 o c base ho hi;exact b.own o2 c aJ e1 e2
 ·rcases q7 c j hk with h4|⟨o,base,h4,h5⟩
  ·exact b.o0 c j h4
  ·exact .inr (b.own o c base h4 h5)
 ·obtain ⟨bs,e1,e2,e3⟩:=hm;exact ⟨bs,e1,e2,fun b hb=>⟨(e3 b hb).1,(e3 b hb).2.1,fun o base ho hi=>by obtain ⟨o2,aJ,p1,p2⟩:=q6 o _ base ho hi;exact (e3 b hb).2.2 o2 aJ p1 p2⟩⟩
theorem aFg {P:Program} [KP P] {ro:Option Nat} {N:Nat} {B:dz} {nt:NT} {c:Code} {W:QL->SL->St->Prop} (aF:B.iw) (hp:B.bg<=1000) (h:Wu P ro N B nt c W):Wu P ro N B nt (.loop c) (xn B.bg W):=by
 intro Q L st g w a hw hc hr hd;obtain ⟨keep,hw⟩:=hw;refine D1 fun Y hY=>?_
 have head:∀ (L:SL) (st:St) (g:Gh) (w:World) (a:Act),upW B.bg (fun vs os=>∀ g w a,mf B g (ay os) w->kj g w nt (fm keep vs) a.tmps->Marks B.D B.n0 (ay os).h g w a.defers->Y a w) (dq B.bg keep L st) (gk B.bg keep L st)->mf B g st w->kj g w nt L a.tmps->Marks B.D B.n0 st.h g w a.defers->Y a w:=by intro L st g w a hh hc hr hd;obtain ⟨vs',os',g',hx,k1,k2,k3,_⟩:=I3 aF hp keep hh hc hr;exact hx g' w a k1 k2 (k3 _ _ _ (Ag hp keep hd))
 have hX:=hw (fun vs os=>∀ g w a,mf B g (ay os) w->kj g w nt (fm keep vs) a.tmps->Marks B.D B.n0 (ay os).h g w a.defers->Y a w) (fun vs os hb g w a hc hr hd=>by
  refine hY a w (wpIn_mono (h _ _ _ g w a hb hc hr hd) ?_);rintro ex a' w' ⟨e,L',st',g',rfl,hq,hc',hr',bP⟩;cases e with
  |normal=>exact head _ _ _ _ _ hq hc' hr' bP
  |exit id=>exact ⟨.exit id,L',st',g',rfl,hq,hc',hr',bP⟩
  |ret=>exact ⟨.ret,L',st',g',rfl,hq,hc',hr',bP⟩)
 exact head _ _ _ _ _ hX hc hr hd
theorem xn.aA4 {α:Type} {bg:Nat} {B:QL->SL->St->Prop} {Q:QL} {L:SL} {st:St} (keep:List Nat) (V : α->List AV) (O : α->List (Option bk)) (I : α->Prop) (μ : α->Nat) (x : α) (hx:I x)
 (hv:kh bg (dq bg keep L st) (gk bg keep L st) (V x) (O x))
 (fR:∀ (Q Q':QL),(∀ e L st,Q e L st->Q' e L st)->∀ L st,B Q L st->B Q' L st)
 (step:∀ x,I x->B (ou bg keep (fun vs os=>∃ y,I y /\ μ y < μ x/\kh bg vs os (V y) (O y)) Q) (fm keep (V x)) (ay (O x))):xn bg B Q L st:=by
 refine ⟨keep,fun X hX=>⟨_,_,hv,?_⟩⟩;have key:∀ n x,μ x=n->I x->X (V x) (O x):=by
  intro n
  induction n using Nat.strongRecOn with
  |_ n ih=>
   intro x hn hi;refine hX _ _ (fR _ _ ?_ _ _ (step x hi));intro e L' st' hq;cases e with
   |normal=>
    obtain ⟨y,h1,h2,h3⟩:=hq;exact ⟨_,_,h3,ih (μ y) zO y rfl h1⟩
   |exit id=>exact hq
   |ret=>exact hq
 exact key _ x rfl hx
theorem xn.of {α:Type} {bg:Nat} {B:QL->SL->St->Prop} {Q:QL} {L:SL} {st:St} (keep:List Nat) (V : α->List AV) (O : α->List (Option bk)) (I : α->Prop) (μ : α->Nat) (x : α) (hx:I x)
 (hv:dq bg keep L st=V x) (ho:gk bg keep L st=O x)
 (fR:∀ (Q Q':QL),(∀ e L st,Q e L st->Q' e L st)->∀ L st,B Q L st->B Q' L st)
 (step:∀ x,I x->B (ou bg keep (fun vs os=>∃ y,I y /\ μ y < μ x/\vs=V y/\os=O y) Q) (fm keep (V x)) (ay (O x))):xn bg B Q L st:=
 xn.aA4 keep V O I μ x hx (by rw [hv,ho];exact .refl _ _ _) fR (fun x hi=>fR _ _ (fun e L' st' hq=>by
  cases e with
  |normal=>
   obtain ⟨y,h1,h2,h3,h4⟩:=hq;refine ⟨y,h1,h2,?_⟩;rw [h3,h4];exact .refl _ _ _
  |exit id=>exact hq
  |ret=>exact hq) _ _ (step x hi))
theorem Hp (h:Tr bk):∀ (F:List Nat) (o:Nat),(∀ p ∈ F,p<=cz)->(vr h F).get o=if o ∈ F then h.get o else none
 | [],o,_=>by simp [vr,Tr.get_nil]
 |p::r,o,hl=>by
  rw [vr,gp _ _ _ _ (hl p (by simp)),Hp h r o (fun q hq=>hl q (by simp [hq]))];by_cases e:o=p
  ·subst e;simp
  ·rw [if_neg e];simp [e]
theorem Ea (h1 h:Tr bk):∀ (F:List Nat) (o:Nat),(∀ p ∈ F,p<=cz)->(zz h1 F h).get o=if o ∈ F then h1.get o else h.get o
 | [],o,_=>by simp [zz]
 |p::r,o,hl=>by
  rw [zz,gp _ _ _ _ (hl p (by simp)),Ea h1 h r o (fun q hq=>hl q (by simp [hq]))];by_cases e:o=p
  ·subst e;simp
  ·rw [if_neg e];simp [e]
theorem Ok.part {g h hm w} (aB:Ok g h w) (hs:∀ o x,hm.get o=some x->h.get o=some x):Ok g hm w:=
 ⟨aB.size,fun o x hx=>aB.px o x (hs o x hx),fun o o' x x' b base base' hne hx hx'=>aB.sep o o' x x' b base base' hne (hs o x hx) (hs o' x' hx'),aB.K⟩
theorem at1 {g h hm w lo hi g' fT w' h'} {S:Nat->Prop} (aB:Ok g h w) (hs:∀ o x,hm.get o=some x->h.get o=some x) (tW:∀ o x,hm.get o=some x->S o)
 (hstep:Step g hm w lo hi g' fT w') (jQ:Ok g' fT w') (h1:∀ o,S o->h'.get o=fT.get o) (h2:∀ o,¬ S o->h'.get o=h.get o) (h3:∀ o,lo<=o->o<hi->S o) :
 Step g h w lo hi g' h' w'/\Ok g' h' w':=by
 have dN:∀ o x b base,h.get o=some x->¬ S o->g.inj o=some (b,base)->∀ o' base',(hm.get o').isSome=true->g.inj o'≠some (b,base'):=by
  intro o x b base ho hS hb o' base' cQ hb';obtain ⟨y,hy⟩:=zzv.1 cQ;have hne:o≠o':=fun e=>hS (by rw [e];exact tW o' y hy)
  exact aB.sep o o' x y b base base' hne ho (hs o' y hy) hb hb'
 have Vu:∀ o x,h'.get o=some x->¬ S o->(g'.inj o=none/\M9 x)\/∃ b base,g.inj o=some (b,base)/\g.b0<=b/\b<w.heap.size/\h.get o=some x/\oy g' w' b base x:=by
  intro o x hx hS;rw [h2 o hS] at hx;refine (aB.px o x hx).imp (fun q=>⟨hstep.fresh o q.1 (fun hr=>hS (h3 o hr.1 hr.2)),q.2⟩) ?_;rintro ⟨b,base,q1,q2,q3⟩;refine ⟨b,base,q1,q2,q3.lt,hx,q3.ext hstep.ext (hstep.frame b q3.lt (dN o x b base hx hS q1)) (fun j hj=>?_)⟩;rcases hstep.o0 b j hj with h3|h3|⟨o',base',h3,h4⟩
  ·exact h3
  ·have:=q3.lt;omega
  ·exact (dN o x b base hx hS q1 o' base' h3 h4).elim
 have cls:∀ o:Nat,S o\/¬ S o:=fun o=>Classical.em _
 refine ⟨⟨hstep.ext,hstep.size,hstep.os,hstep.tape,hstep.output,fun b hb hn=>?_,hstep.fresh,fun o b base ho hj=>?_,fun b j hK=>?_⟩,⟨?_,fun o x hx=>?_,fun o o' x x' b base base' hne hx hx' hb hb'=>?_,jQ.K⟩⟩
 ·refine hstep.frame b hb (fun o base ho hj=>?_);obtain ⟨y,hy⟩:=zzv.1 ho;exact hn o base (by rw [hs o y hy];rfl) hj
 ·obtain ⟨x,hx⟩:=zzv.1 ho;rcases cls o with hS|hS
  ·rw [h1 o hS] at hx;rcases hstep.own o b base (by rw [hx];rfl) hj with h3|⟨o',base',h3,h4⟩
   ·exact .inl h3
   ·obtain ⟨y,hy⟩:=zzv.1 h3;exact .inr ⟨o',base',by rw [hs o' y hy];rfl,h4⟩
  ·rcases Vu o x hx hS with ⟨q0,_⟩|⟨b',base',q1,q2,q3,q4,q5⟩
   ·rw [q0] at hj;cases hj
   have:=hstep.ext.inj o _ q1;rw [hj] at this;cases this;exact .inr ⟨o,base,by rw [q4];rfl,q1⟩
 ·rcases hstep.o0 b j hK with h3|h3|⟨o',base',h3,h4⟩
  ·exact .inl h3
  ·exact .inr (.inl h3)
  ·obtain ⟨y,hy⟩:=zzv.1 h3;exact .inr (.inr ⟨o',base',by rw [hs o' y hy];rfl,h4⟩)
 ·exact jQ.size
 ·rcases cls o with hS|hS
  ·rw [h1 o hS] at hx;exact jQ.px o x hx
  ·refine (Vu o x hx hS).imp id ?_;rintro ⟨b',base',q1,q2,q3,q4,q5⟩;exact ⟨b',base',hstep.ext.inj o _ q1,by rw [hstep.ext.b0];exact q2,q5⟩
 ·rcases cls o with hS|hS
  ·rcases cls o' with kU|kU
   ·rw [h1 o hS] at hx;rw [h1 o' kU] at hx';exact jQ.sep o o' x x' b base base' hne hx hx' hb hb'
   ·rcases Vu o' x' hx' kU with ⟨q0,_⟩|⟨b1,aG,q1,q2,q3,q4,q5⟩
    ·rw [q0] at hb';cases hb'
    have:=hstep.ext.inj o' _ q1;rw [hb'] at this;cases this;rw [h1 o hS] at hx;rcases hstep.own o b base (by rw [hx];rfl) hb with h3|⟨o2,aJ,h3,h4⟩
    ·omega
    ·exact dN o' x' b base' q4 kU q1 o2 aJ h3 h4
  ·rcases Vu o x hx hS with ⟨q0,_⟩|⟨b1,aG,q1,q2,q3,q4,q5⟩
   ·rw [q0] at hb;cases hb
   have:=hstep.ext.inj o _ q1;rw [hb] at this;cases this;rcases cls o' with kU|kU
   ·rw [h1 o' kU] at hx';rcases hstep.own o' b base' (by rw [hx'];rfl) hb' with h3|⟨o2,aJ,h3,h4⟩
    ·omega
    ·exact dN o x b base q4 hS q1 o2 aJ h3 h4
   ·rcases Vu o' x' hx' kU with ⟨q0,_⟩|⟨b2,aJ,r1,r2,r3,r4,r5⟩
    ·rw [q0] at hb';cases hb'
    have:=hstep.ext.inj o' _ r1;rw [hb'] at this;cases this;exact aB.sep o o' x x' b base base' hne q4 r4 q1 r1
theorem Step.both {g h w lo hi g' h' w' g'' kW w''} (s:Step g h w lo hi g' h' w') (t:Step g' h' w' lo hi g'' kW w''):Step g h w lo hi g'' kW w'':=by
 refine ⟨s.ext.trans t.ext,zzu s.size t.size,t.os.trans s.os,t.tape.trans s.tape,t.output.trans s.output,fun b hb hn=>?_,fun o ho hr=>t.fresh o (s.fresh o ho hr) hr,fun o b base ho hj=>?_,fun b j hK=>?_⟩
 ·rw [t.frame b (zyd hb s.size) (fun o base ho hj=>?_),s.frame b hb hn];rcases s.own o b base ho hj with hge|⟨o',base',cQ,hj'⟩
  ·omega
  ·exact hn o' base' cQ hj'
 ·rcases t.own o b base ho hj with hge|⟨o',base',cQ,hj'⟩
  ·exact .inl (zzu s.size hge)
  ·exact s.own o' b base' cQ hj'
 ·rcases t.o0 b j hK with h|hge|⟨o',base',cQ,hj'⟩
  ·exact s.o0 b j h
  ·exact .inr (.inl (zzu s.size hge))
  ·rcases s.own o' b base' cQ hj' with hge|hx
   ·exact .inr (.inl hge)
   ·exact .inr (.inr hx)
structure DS where
 o:Oper
 L:SL
 st:St
 want:Bool
 v:AV
 fg:St
 R:List Nat
 W:List Nat
def acy (ops:Array Oper) (L:SL) (o:Oper):Option Bool:=
 match o.guard with
 |none=>some true
 |some (j,b)=>G1 (lk L (yr ops j)) b
structure DSRun (P:Program) (T:fp) (d:DS):Prop where
 run:d.want=true->il P T d.o (eg d.o d.L) { h:=vr d.st.h d.R,nx:=d.st.nx,rl:=[],wl:=[] }=some (d.v,d.fg)/\(∀ p ∈ d.R,p<d.st.nx)/\d.fg.nx<=cz /\
  (∀ o,o ∈ d.W↔(o ∈ d.W/\o ∈ d.R)\/(d.st.nx<=o/\o<d.fg.nx))/\(∀ o ∈ d.R,o ∉ d.W->d.st.h.get o=d.fg.h.get o)
 skip:d.want=false->d.v = .sc undef/\d.fg.nx=d.st.nx/\d.R=[]/\d.W=[]
structure aLz (P:Program) (T:fp) (ops:Array Oper) (d:DS):Prop extends DSRun P T d where
 g:acy ops d.L d.o=some d.want
def DS.auz (d:DS):SL:=l8 d.o.dst d.v d.L
noncomputable def DS.next (d:DS):St:=bif d.want then { h:=zz d.fg.h (d.R++ff d.st.nx (d.fg.nx - d.st.nx)) d.st.h,nx:=d.fg.nx,rl:=[],wl:=[] } else d.st
def ahf:List DS->SL->St->SL->St->Prop
 | [],L,st,L',st'=>L'=L/\st'=st
 |d::r,L,st,L',st'=>d.L=L/\d.st=st/\ahf r d.auz d.next L' st'
theorem aoj {ops:Array Oper} {L:SL} {o:Oper} {x y:Prop} (h:guarded ops L o.guard x y):∃ b,acy ops L o=some b/\(b=true->x)/\(b=false->y):=by
 unfold guarded at h;unfold acy;cases hg:o.guard with
 |none=>rw [hg] at h;exact ⟨true,rfl,fun _=>h,fun e=>by cases e⟩
 |some q=>
  obtain ⟨j,b⟩:=q;rw [hg] at h;exact Zx h
theorem aCi {ops:Array Oper} {L:SL} {gd:Option (Nat × Bool)} {x y x' y':Prop} (h1:x->x') (h2:y->y') (h:guarded ops L gd x y):guarded ops L gd x' y':=by
 unfold guarded at *
 split at h
 ·exact h1 h
 ·unfold Dx at *
  split at h
  ·exact ⟨fun e=>h1 (h.1 e),fun e=>h2 (h.2 e)⟩
  ·exact h.elim
theorem Zv {P:Program} {T:fp} {o:Oper} {recs:List Rec} {K K':List Rec->SL->St->Prop} {L:SL} {st:St} (hk:∀ r L st,K r L st->K' r L st) (h:ahk P T o recs K L st):ahk P T o recs K' L st:=by obtain ⟨F,W,v,fg,h1,h2,h3,h4,h5,h6⟩:=h;exact ⟨F,W,v,fg,h1,h2,h3,h4,h5,hk _ _ _ h6⟩
theorem am6 {P:Program} [KP P] {T:fp} {ops:Array Oper} {K:SL->St->Prop}:∀ (l:List Oper) (recs:List Rec) (L:SL) (st:St),Jx P T ops l K recs L st->Sn P T ops l K recs L st
 | [],_,_,_,h=>h
 |o::r,recs,L,st,h=>aCi (fun q=>Zv (fun _ _ _ k=>am6 r _ _ _ k) (aG5 q)) (fun q=>am6 r _ _ _ q) h
theorem aAm {P:Program} [KP P] {T:fp} {ops:Array Oper} {K:SL->St->Prop}:∀ (l:List Oper) (L:SL) (st:St) (recs:List Rec),Sn P T ops l K recs L st ->
 ∃ ds L' st',ds.map (·.o)=l/\(∀ d ∈ ds,aLz P T ops d)/\ahf ds L st L' st'/\eh (Region.before ops) 0 (recs++ds.map fun d=>⟨d.R,d.W⟩)=true/\K L' st':=by
 intro l
 induction l with
 |nil=>intro L st recs h;exact ⟨[],L,st,rfl,by simp,⟨rfl,rfl⟩,by simpa using h.1,h.2⟩
 |cons o l ih=>
  intro L st recs h;obtain ⟨b,hb,h1,h2⟩:=aoj h;cases b with
  |true=>
   obtain ⟨F,W,v,fg,hop,h4,h5,h6,h7,h8⟩:=h1 rfl;obtain ⟨ds,L',st',e1,e2,e3,e4,e5⟩:=ih _ _ _ h8;have hle:=A2 hop;refine ⟨{ o,L,st,want:=true,v,fg,R:=F,W:=W++ff st.nx (fg.nx - st.nx) }::ds,L',st',by simp [e1],?_,⟨rfl,rfl,?_⟩,?_,e5⟩
   ·intro d hd;rcases zyb.1 hd with rfl|hd
    ·refine ⟨⟨fun _=>⟨hop,h6,h7,fun q=>?_,fun q hq hn=>?_⟩,fun e=>by cases e⟩,hb⟩
     ·simp only [zzq,qe];constructor
      ·rintro (hq|hq)
       ·exact .inl ⟨.inl hq,h4 q hq⟩
       ·exact .inr ⟨hq.1,by simp at hle;omega⟩
      ·rintro (hq|hq)
       ·exact hq.1
       ·exact .inr ⟨hq.1,zO⟩
     ·have:=h5 q hq (fun hw=>hn (zzq.2 (.inl hw)));rw [Hp _ _ _ (fun p hp=>by have:=h6 p hp;simp at hle;omega),if_pos hq] at this;exact this
    ·exact e2 d hd
   ·exact e3
   ·simpa [zzc] using e4
  |false=>
   have h3:=h2 rfl;obtain ⟨ds,L',st',e1,e2,e3,e4,e5⟩:=ih _ _ _ h3;refine ⟨{ o,L,st,want:=false,v:=.sc undef,fg:=st,R:=[],W:=[] }::ds,L',st',by simp [e1],?_,⟨rfl,rfl,?_⟩,?_,e5⟩
   ·intro d hd;rcases zyb.1 hd with rfl|hd
    ·exact ⟨⟨(fun e=>by cases e),fun _=>⟨rfl,rfl,rfl,rfl⟩⟩,hb⟩
    ·exact e2 d hd
   ·exact e3
   ·simpa [zzc] using e4
noncomputable def py (ds:List DS) (h0:Tr bk) (D:Nat->Bool):Nat->Nat->Option bk
 |0,o=>h0.get o
 |m+1,o=>
  match ds[m]? with
  |some d=>if D m=true/\o ∈ d.W then d.fg.h.get o else py ds h0 D m o
  |none=>py ds h0 D m o
def p0 (ds:List DS) (L0:SL) (D:Nat->Bool):Nat->Nat->AV
 |0,t=>lk L0 t
 |m+1,t=>
  match ds[m]? with
  |some d=>if D m=true/\d.o.dst=some t then d.v else p0 ds L0 D m t
  |none=>p0 ds L0 D m t
def tq (ds:List DS) (n0:Nat):Nat->Nat
 |0=>n0
 |m+1=>
  match ds[m]? with
  |some d=>d.fg.nx
  |none=>tq ds n0 m
theorem aIc (dst:Option Tmp) (v:AV) (L:SL) (t:Nat):lk (l8 dst v L) t=if dst=some t then v else lk L t:=by
 cases dst with
 |none=>simp [l8]
 |some d=>simp [l8,pq]
theorem aAn {P:Program} [KP P] {T:fp} {ds:List DS} {L0:SL} {st0:St} {L':SL} {st':St} (bO:∀ d ∈ ds,DSRun P T d) (hc:ahf ds L0 st0 L' st') :
 (∀ i d,ds[i]? = some d->(∀ t,lk d.L t=p0 ds L0 (fun _=>true) i t)/\(∀ o,d.st.h.get o=py ds st0.h (fun _=>true) i o)/\d.st.nx=tq ds st0.nx i/\d.st.nx<=d.fg.nx) /\
 (∀ t,lk L' t=p0 ds L0 (fun _=>true) ds.length t)/\(∀ o,st'.h.get o=py ds st0.h (fun _=>true) ds.length o)/\st'.nx=tq ds st0.nx ds.length:=by
 have key:∀ (k:Nat) (r:List DS) (L:SL) (st:St),ds.drop k=r->k<=ds.length->ahf r L st L' st'->(∀ t,lk L t=p0 ds L0 (fun _=>true) k t)->(∀ o,st.h.get o=py ds st0.h (fun _=>true) k o)->st.nx=tq ds st0.nx k ->
  (∀ i d,k<=i->ds[i]? = some d->(∀ t,lk d.L t=p0 ds L0 (fun _=>true) i t)/\(∀ o,d.st.h.get o=py ds st0.h (fun _=>true) i o)/\d.st.nx=tq ds st0.nx i/\d.st.nx<=d.fg.nx) /\
  (∀ t,lk L' t=p0 ds L0 (fun _=>true) ds.length t)/\(∀ o,st'.h.get o=py ds st0.h (fun _=>true) ds.length o)/\st'.nx=tq ds st0.nx ds.length:=by
  intro k r
  induction r generalizing k with
  |nil=>
   intro L st hr hk hch h1 h2 h3;have hlen:k=ds.length:=by have:=congrArg List.length hr;simp at this;omega
   obtain ⟨rfl,rfl⟩:=hch;subst hlen;refine ⟨fun i d hi hd=>?_,h1,h2,h3⟩;rw [zzy hi] at hd;cases hd
  |cons d r ih=>
   intro L st hr hk hch h1 h2 h3;obtain ⟨rfl,rfl,hch⟩:=hch;have fV:k<ds.length:=by
    rcases zyh k ds.length with h|h
    ·exact h
    ·rw [zzx h] at hr;cases hr
   rw [zzs fV] at hr;injection hr with hd hr
   have qC:ds[k]? = some d:=by rw [zh fV,hd]
   have aB:=bO d (zm qC);have hle:d.st.nx<=d.fg.nx:=by
    cases hw:d.want with
    |true=>have:=A2 (aB.run hw).1;exact this
    |false=>rw [(aB.skip hw).2.1];exact zza _
   have hn:=ih (k+1) d.auz d.next hr fV hch (fun t=>?_) (fun o=>?_) ?_
   ·refine ⟨fun i d' hi bP=>?_,hn.2⟩;rcases zyh k i with h|h
    ·exact hn.1 i d' h bP
    ·have:i=k:=zO;subst this;rw [qC] at bP;cases bP;exact ⟨h1,h2,h3,hle⟩
   ·rw [DS.auz,aIc,p0,qC];simp only [true_and]
    split
    ·rfl
    ·exact h1 t
   ·rw [DS.next,py,qC];cases hw:d.want with
    |true=>
     obtain ⟨r1,r2,r3,r4,r5⟩:=aB.run hw;simp only [cond_true,true_and];rw [Ea _ _ _ _ (fun p hp=>by
      rcases zzq.1 hp with hp|hp
      ·have:=r2 p hp;omega
      ·rw [qe] at hp;omega)]
     by_cases hW:o ∈ d.W
     ·rw [if_pos hW,if_pos];rcases (r4 o).1 hW with hq|hq
      ·exact zzq.2 (.inl hq.2)
      ·exact zzq.2 (.inr (by rw [qe];omega))
     ·rw [if_neg hW];by_cases hR:o ∈ d.R
      ·rw [if_pos (zzq.2 (.inl hR)),<- r5 o hR hW,h2 o]
      ·rw [if_neg,h2 o];intro hm;rcases zzq.1 hm with hm|hm
       ·exact hR hm
       ·rw [qe] at hm;exact hW ((r4 o).2 (.inr zO))
    |false=>
     obtain ⟨s1,s2,s3,s4⟩:=aB.skip hw;simp only [cond_false,s4,List.not_mem_nil,and_false,if_false];exact h2 o
   ·rw [DS.next,tq,qC];cases hw:d.want with
    |true=>rfl
    |false=>exact (aB.skip hw).2.1.symm
 have:=key 0 ds L0 st0 rfl (zzb _) hc (fun t=>rfl) (fun o=>rfl) rfl;exact ⟨fun i d hd=>this.1 i d (zzb _) hd,this.2⟩
theorem ad1 {ds:List DS} {h0:Tr bk} {D:Nat->Bool} {i:Nat} {o:Nat} (h:∀ k d,ds[k]? = some d->o ∈ d.W->(D k=true↔k<i)):∀ m,py ds h0 D m o=py ds h0 (fun _=>true) (min m i) o
 |0=>by simp [py]
 |m+1=>by
  have ih:=ad1 (h0:=h0) h m;rw [py];cases hd:ds[m]? with
  |none=>
   rcases zyh m i with hm|hm
   ·rw [show min (m+1) i=m+1 from by omega,py,hd];simp only;rw [ih,show min m i=m from by omega]
   ·simp only;rw [ih,show min (m+1) i=min m i from by omega]
  |some d=>
   simp only;rcases zyh m i with hm|hm
   ·rw [show min (m+1) i=m+1 from by omega,py,hd];simp only;by_cases hW:o ∈ d.W
    ·rw [if_pos ⟨(h m d hd hW).2 hm,hW⟩,if_pos ⟨by simp,hW⟩]
    ·rw [if_neg (fun e=>hW e.2),if_neg (fun e=>hW e.2),ih,show min m i=m from by omega]
   ·rw [if_neg (fun e=>by have:=(h m d hd e.2).1 e.1;omega),ih,show min (m+1) i=min m i from by omega]
theorem afx {ds:List DS} {L0:SL} {D:Nat->Bool} {i:Nat} {t:Nat} (h:∀ k d,ds[k]? = some d->d.o.dst=some t->(D k=true↔k<i)):∀ m,p0 ds L0 D m t=p0 ds L0 (fun _=>true) (min m i) t
 |0=>by simp [p0]
 |m+1=>by
  have ih:=afx (L0:=L0) h m;rw [p0];cases hd:ds[m]? with
  |none=>
   rcases zyh m i with hm|hm
   ·rw [show min (m+1) i=m+1 from by omega,p0,hd];simp only;rw [ih,show min m i=m from by omega]
   ·simp only;rw [ih,show min (m+1) i=min m i from by omega]
  |some d=>
   simp only;rcases zyh m i with hm|hm
   ·rw [show min (m+1) i=m+1 from by omega,p0,hd];simp only;by_cases hW:d.o.dst=some t
    ·rw [if_pos ⟨(h m d hd hW).2 hm,hW⟩,if_pos ⟨by simp,hW⟩]
    ·rw [if_neg (fun e=>hW e.2),if_neg (fun e=>hW e.2),ih,show min m i=m from by omega]
   ·rw [if_neg (fun e=>by have:=(h m d hd e.2).1 e.1;omega),ih,show min (m+1) i=min m i from by omega]
def ye (D:Nat->Bool) (i:Nat):Nat->Bool:=fun k=>if k=i then true else D k
theorem ah0 {ds:List DS} {h0:Tr bk} {D:Nat->Bool} {i:Nat} {d:DS} {o:Nat} (hi:ds[i]? = some d) (h:o ∈ d.W->∀ k e,ds[k]? = some e->i<k->o ∈ e.W->D k=false) :
 ∀ m,py ds h0 (ye D i) m o=if o ∈ d.W/\i<m then d.fg.h.get o else py ds h0 D m o
 |0=>by simp [py]
 |m+1=>by
  have ih:=ah0 (h0:=h0) hi h m;rw [py];cases hd:ds[m]? with
  |none=>
   simp only;rw [ih,py,hd];have:m≠i:=fun e=>by subst e;rw [hi] at hd;cases hd
   by_cases hm:i<m
   ·simp [hm,Nat.lt_succ_of_lt hm]
   ·simp [hm,show ¬ i<m+1 from by omega]
  |some e=>
   simp only;rw [py,hd];by_cases hm:m=i
   ·subst hm;rw [hi] at hd;cases hd;simp only [ye,if_true,true_and];by_cases hW:o ∈ d.W
    ·simp [hW]
    ·rw [ih];simp [hW]
   ·simp only [ye,if_neg hm];by_cases hW:o ∈ d.W
    ·by_cases hlt:i<m
     ·by_cases he:o ∈ e.W
      ·have:=h hW m e hd hlt he;rw [this,if_neg (by simp),ih];simp [hW,hlt,Nat.lt_succ_of_lt hlt]
      ·rw [if_neg (fun q=>he q.2),ih];simp [hW,hlt,Nat.lt_succ_of_lt hlt]
     ·have hl2:¬ i<m+1:=zO;rw [ih];simp [hlt,hl2]
    ·rw [ih];simp [hW]
theorem aln {ds:List DS} {L0:SL} {D:Nat->Bool} {i:Nat} {d:DS} {t:Nat} (hi:ds[i]? = some d) (h:d.o.dst=some t->∀ k e,ds[k]? = some e->i<k->e.o.dst=some t->D k=false) :
 ∀ m,p0 ds L0 (ye D i) m t=if d.o.dst=some t/\i<m then d.v else p0 ds L0 D m t
 |0=>by simp [p0]
 |m+1=>by
  have ih:=aln (L0:=L0) hi h m;rw [p0];cases hd:ds[m]? with
  |none=>
   simp only;rw [ih,p0,hd];have:m≠i:=fun e=>by subst e;rw [hi] at hd;cases hd
   by_cases hm:i<m
   ·simp [hm,Nat.lt_succ_of_lt hm]
   ·simp [hm,show ¬ i<m+1 from by omega]
  |some e=>
   simp only;rw [p0,hd];by_cases hm:m=i
   ·subst hm;rw [hi] at hd;cases hd;simp only [ye,if_true,true_and];by_cases hW:d.o.dst=some t
    ·simp [hW]
    ·rw [ih];simp [hW]
   ·simp only [ye,if_neg hm];by_cases hW:d.o.dst=some t
    ·by_cases hlt:i<m
     ·by_cases he:e.o.dst=some t
      ·have:=h hW m e hd hlt he;rw [this,if_neg (by simp),ih];simp [hW,hlt,Nat.lt_succ_of_lt hlt]
      ·rw [if_neg (fun q=>he q.2),ih];simp [hW,hlt,Nat.lt_succ_of_lt hlt]
     ·have hl2:¬ i<m+1:=zO;rw [ih];simp [hlt,hl2]
    ·rw [ih];simp [hW]
theorem abf {acc:Array Nat} {k:Nat}:∀ (l:List Edge) (s0:Nat),(l.foldl (fun s e=>if Region.binds .any e then s ||| 2 ^ e.on ||| acc.getD e.on 0 else s) s0).testBit k=true ->
 s0.testBit k=true\/∃ e ∈ l,Region.binds .any e=true/\(k=e.on\/(acc.getD e.on 0).testBit k=true)
 | [],s0,h=>.inl h
 |e::l,s0,h=>by
  simp only [List.foldl_cons] at h;rcases abf l _ h with h1|⟨e',he,h1,h2⟩
  ·by_cases hb:Region.binds .any e=true
   ·rw [if_pos hb] at h1;simp only [Nat.testBit_or,Bool.or_eq_true,Nat.testBit_two_pow,decide_eq_true_eq] at h1;rcases h1 with (h1|h1)|h1
    ·exact .inl h1
    ·exact .inr ⟨e,by simp,hb,.inl h1.symm⟩
    ·exact .inr ⟨e,by simp,hb,.inr h1⟩
   ·rw [if_neg hb] at h1;exact .inl h1
  ·exact .inr ⟨e',by simp [he],h1,h2⟩
def tu (acc:Array Nat) (o:Oper):Array Nat:=acc.push (o.after.foldl (fun s e=>if Region.binds .any e then s ||| 2 ^ e.on ||| acc.getD e.on 0 else s) 0)
theorem apq (ops:Array Oper):Region.before ops=ops.toList.foldl tu #[]:=by unfold Region.before;rw [<- Array.foldl_toList];rfl
theorem Lz {a:Array Nat} {i k:Nat} (h:(a.getD i 0).testBit k=true):i<a.size:=by
 rcases zyh i a.size with h1|h1
 ·exact h1
 ·rw [zze,Array.getElem?_eq_none h1] at h;simp at h
theorem aBq (l:List Oper):(l.foldl tu #[]).size=l.length/\∀ i k,((l.foldl tu #[]).getD i 0).testBit k=true ->
 ∃ o,l[i]? = some o/\∃ e ∈ o.after,Region.binds .any e=true/\(k=e.on\/((l.foldl tu #[]).getD e.on 0).testBit k=true):=by
 suffices h:∀ r:List Oper,(r.reverse.foldl tu #[]).size=r.length/\∀ i k,((r.reverse.foldl tu #[]).getD i 0).testBit k=true ->
  ∃ o,r.reverse[i]? = some o/\∃ e ∈ o.after,Region.binds .any e=true/\(k=e.on\/((r.reverse.foldl tu #[]).getD e.on 0).testBit k=true) by
  have:=h l.reverse;simpa using this
 intro r
 induction r with
 |nil=>exact ⟨rfl,fun i k h=>by have:=Lz h;simp at this⟩
 |cons o r ih=>
  rw [List.reverse_cons,List.foldl_append];generalize hb:r.reverse.foldl tu #[]=b at ih;obtain ⟨h1,h2⟩:=ih;simp only [List.foldl_cons,List.foldl_nil];have hsz:(tu b o).size=r.length+1:=by simp [tu,h1]
  have fk:∀ i,i<b.size->(tu b o).getD i 0=b.getD i 0:=by intro i hi;simp only [tu,zze,Array.getElem?_push];rw [if_neg zO]
  refine ⟨by simpa using hsz,fun i k h=>?_⟩;have hi:=Lz h;rw [hsz] at hi;by_cases hlt:i<b.size
  ·rw [fk i hlt] at h;obtain ⟨o',ho,e,he,jG,hk⟩:=h2 i k h;refine ⟨o',by rw [zzi (by simp;omega)];exact ho,e,he,jG,hk.imp id fun hk=>?_⟩;rw [fk _ (Lz hk)];exact hk
  ·have tL:i=r.length:=zO;have hv:(tu b o).getD i 0=o.after.foldl (fun s e=>if Region.binds .any e then s ||| 2 ^ e.on ||| b.getD e.on 0 else s) 0:=by
    simp only [tu,zze,Array.getElem?_push];rw [if_pos zO];rfl
   rw [hv,<- Array.foldl_toList] at h;rcases abf _ _ h with h3|⟨e,he,jG,hk⟩
   ·simp at h3
   ·refine ⟨o,by rw [zzd (by simp;omega)];simp [tL],e,by simpa using he,jG,hk.imp id fun hk=>?_⟩;rw [fk _ (Lz hk)];exact hk
theorem an8 {ops:Array Oper} {i k:Nat} (h:((Region.before ops).getD i 0).testBit k=true) :
 ∃ o,ops[i]? = some o/\∃ e ∈ o.after,Region.binds .any e=true/\(k=e.on\/((Region.before ops).getD e.on 0).testBit k=true):=by
 rw [apq] at h ⊢;obtain ⟨o,ho,r⟩:=(aBq ops.toList).2 i k h;exact ⟨o,by simpa using ho,r⟩
theorem adi {a b:List Nat} (h:xw a b=true) {o:Nat} (ha:o ∈ a) (hb:o ∈ b):False:=(aup a b).1 h o ha hb
theorem V8 {before:Array Nat} {i:Nat} {a:Rec}:∀ (r:List Rec) (j:Nat),Ua before i a j r=true->∀ k b,r[k]? = some b->Pq before i (j+k) a b=true
 | [],j,_,k,b,h=>by simp at h
 |c::r,j,h,k,b,hk=>by
  simp only [Ua,zzh] at h;cases k with
  |zero=>simp at hk;subst hk;exact h.1
  |succ k=>have:=V8 r (j+1) h.2 k b (by simpa using hk);rwa [show j+1+k=j+(k+1) from by omega] at this
theorem Vq {before:Array Nat}:∀ (r:List Rec) (j:Nat),eh before j r=true->∀ i k a b,i<k->r[i]? = some a->r[k]? = some b->Pq before (j+i) (j+k) a b=true
 | [],j,_,i,k,a,b,_,h,_=>by simp at h
 |c::r,j,h,i,k,a,b,hlt,hi,hk=>by
  simp only [eh,zzh] at h;obtain ⟨k,rfl⟩:∃ q,k=q+1:=⟨k - 1,zO⟩;cases i with
  |zero=>simp at hi;subst hi;have:=V8 r (j+1) h.1 k b (by simpa using hk);rwa [show j+1+k=j+(k+1) from by omega] at this
  |succ i=>
   have:=Vq r (j+1) h.2 i k a b zO (by simpa using hi) (by simpa using hk)
   rwa [show j+1+i=j+(i+1) from by omega,show j+1+k=j+(k+1) from by omega] at this
def Nz (ops:Array Oper) (D:Nat->Bool):Prop:=∀ i k,D i=true->((Region.before ops).getD i 0).testBit k=true->D k=true
theorem Je {ops:Array Oper} {D:Nat->Bool} {i:Nat} {o:Oper} (hc:Nz ops D) (ho:ops[i]? = some o) (hr:∀ e ∈ o.after,Region.binds .any e=true->D e.on=true) :
 ∀ k,((Region.before ops).getD i 0).testBit k=true->D k=true:=by
 intro k hk;obtain ⟨o',cQ,e,he,hb,h⟩:=an8 hk;rw [ho] at cQ;cases cQ;rcases h with rfl|h
 ·exact hr e he hb
 ·exact hc e.on k (hr e he hb) h
theorem Nz.ye {ops:Array Oper} {D:Nat->Bool} {i:Nat} {o:Oper} (hc:Nz ops D) (ho:ops[i]? = some o) (hr:∀ e ∈ o.after,Region.binds .any e=true->D e.on=true):Nz ops (ye D i):=by
 intro j k hj hk;have:D k=true:=by
  by_cases e:j=i
  ·subst e;exact Je hc ho hr k hk
  ·simp only [Vm.ye,if_neg e] at hj;exact hc j k hj hk
 simp only [Vm.ye];split
 ·rfl
 ·exact this
def left (D:Nat->Bool):Nat->Nat
 |0=>0
 |m+1=>left D m+(bif D m then 0 else 1)
theorem amx {D:Nat->Bool} {i:Nat} (hi:D i=false):∀ m,left (ye D i) m+(if i<m then 1 else 0)=left D m
 |0=>by simp [left]
 |m+1=>by
  have ih:=amx hi m;simp only [left,ye];by_cases e:m=i
  ·subst e;simp only [if_true,cond_true,hi,cond_false] at *;simp only [Nat.lt_irrefl,if_false,Nat.lt_succ_self,if_true] at *;omega
  ·rw [if_neg e];by_cases h:i<m
   ·rw [if_pos h] at ih;rw [if_pos zO];omega
   ·rw [if_neg h] at ih;rw [if_neg zO];omega
theorem adp {D:Nat->Bool}:∀ m,left D m=0->∀ k,k<m->D k=true
 |0,_,k,h=>by omega
 |m+1,h,k,hk=>by
  simp only [left] at h;by_cases e:k=m
  ·subst e;cases hd:D k with
   |true=>rfl
   |false=>rw [hd] at h;simp at h
  ·exact adp m zO k zO
theorem X4 {D:Nat->Bool}:∀ m,(∃ k,k<m/\D k=false)->∃ k,k<m/\D k=false/\∀ j,j<k->D j=true
 |0,⟨k,h,_⟩=>by omega
 |m+1,⟨k,hk,hd⟩=>by
  by_cases h:∃ k,k<m/\D k=false
  ·obtain ⟨j,h1,h2,h3⟩:=X4 m h;exact ⟨j,zO,h2,h3⟩
  ·have hall:∀ j,j<m->D j=true:=fun j hj=>by
    cases AR:D j with
    |true=>rfl
    |false=>exact (h ⟨j,hj,AR⟩).elim
   have:k=m:=by
    rcases zyh k m with h1|h1
    ·rw [hall k h1] at hd;cases hd
    ·omega
   subst this;exact ⟨k,zO,hd,hall⟩
theorem wj {ds:List DS} {n0:Nat} (h:∀ i d,ds[i]? = some d->d.st.nx=tq ds n0 i/\d.st.nx<=d.fg.nx):∀ m i,i<=m->tq ds n0 i<=tq ds n0 m
 |0,i,hi=>by rw [show i=0 from by omega];exact zza _
 |m+1,i,hi=>by
  by_cases e:i=m+1
  ·subst e;exact zza _
  ·have ih:=wj h m i zO;refine zzu ih ?_;rw [tq.eq_2];cases hd:ds[m]? with
   |none=>exact zza _
   |some d=>obtain ⟨h1,h2⟩:=h m d hd;simp only;omega
theorem ate {ops:Array Oper} {o:Oper} {g w nt b} {L:SL} {tmps:Array Value} (hsz:tmps.size=nt) (hs:∀ j b,o.guard=some (j,b)->∃ d,((ops[j]?).bind (·.dst))=some d/\d<nt)
 (hr:∀ j c,o.guard=some (j,c)->Rel g w (lk L (yr ops j)) (tmps.getD (yr ops j) undef)) (h:acy ops L o=some b):Region.wanted o (yielded ops tmps)=b:=by
 unfold acy at h;unfold Region.wanted;cases hg:o.guard with
 |none=>rw [hg] at h;simpa using h
 |some q=>
  obtain ⟨j,c⟩:=q;obtain ⟨d,hd,hlt⟩:=hs j c hg;have hrel:=hr j c hg;rw [hg] at h;have tP:yr ops j=d:=by unfold yr;rw [hd];rfl
  dsimp only at h ⊢;rw [tP] at h hrel;rw [V5 c hd (by rw [hsz];exact hlt)];exact Zr hrel h
theorem ash {g w} {o:Oper} {L:SL} {a:Act} (h:∀ t,(∃ x ∈ o.op.operands.toList,x = .tmp t)->Rel g w (lk L t) (a.tmps.getD t undef)):qf g w (eg o L) a.eval:=by
 intro x;cases x with
 |tmp t=>
  simp only [eg];cases hb:o.op.operands.any (fun x=>match x with|.tmp u=>Nat.beq u t|_=>false) with
  |false=>exact .bad _
  |true=>
   rw [cond_true];refine h t ?_;rw [Array.any_eq_true'] at hb;obtain ⟨y,hy,hb⟩:=hb;refine ⟨y,by simpa using hy,?_⟩;cases y with
   |tmp u=>simp at hb;rw [hb]
   |_=>cases hb
 |const v=>exact .sc v
 |global g'=>exact .sc _
 |func f=>exact .sc _
structure Gw (P:Program) (T:fp) (ops:Array Oper) (ds:List DS) (L0:SL) (st0:St) (L':SL) (st':St):Prop where
 os:ds.map (·.o)=ops.toList
 ok:∀ d ∈ ds,DSRun P T d
 Vo:∀ i d,ds[i]? = some d->(∀ t,lk d.L t=p0 ds L0 (fun _=>true) i t)/\(∀ o,d.st.h.get o=py ds st0.h (fun _=>true) i o)/\d.st.nx=tq ds st0.nx i/\d.st.nx<=d.fg.nx
 fin:(∀ t,lk L' t=p0 ds L0 (fun _=>true) ds.length t)/\(∀ o,st'.h.get o=py ds st0.h (fun _=>true) ds.length o)/\st'.nx=tq ds st0.nx ds.length
 slots:∀ i k a b t,i≠k->ds[i]? = some a->ds[k]? = some b->t ∈ E8 ops a.o->b.o.dst=some t->((Region.before ops).getD (max i k) 0).testBit (min i k)=true
 aKu:∀ (i:Nat) o,ops[i]? = some o->∀ e ∈ o.after,Region.binds .any e=true->e.on<i
theorem Gw.get {P T ops ds L0 st0 L' st'} [KP P] (h:Gw P T ops ds L0 st0 L' st') {i:Nat} {d:DS} (hd:ds[i]? = some d):ops[i]? = some d.o:=by have:=congrArg (·[i]?) h.os;simp only [zzj,hd,Option.map_some] at this;simpa using this.symm
theorem Gw.len {P T ops ds L0 st0 L' st'} [KP P] (h:Gw P T ops ds L0 st0 L' st'):ds.length=ops.size:=by have:=congrArg List.length h.os;simpa using this
theorem Gw.has {P T ops ds L0 st0 L' st'} [KP P] (h:Gw P T ops ds L0 st0 L' st') {i:Nat} (hi:i<ops.size):∃ d,ds[i]? = some d:=⟨ds[i]'(by rw [h.len];exact hi),by simp⟩
def Calm (ops:Array Oper) (ds:List DS):Prop:=∀ i k a b,i<k->ds[i]? = some a->ds[k]? = some b->((Region.before ops).getD k 0).testBit i=true\/(xw a.W b.R=true/\xw a.W b.W=true/\xw a.R b.W=true)
theorem ai5 {P:Program} [KP P] {T:fp} {ops:Array Oper} {ds:List DS} {L0:SL} {st0:St} {L':SL} {st':St} (R:Gw P T ops ds L0 st0 L' st') (C:Calm ops ds) {D:Nat->Bool} {i:Nat} {d:DS} (hi:ds[i]? = some d) (hD:D i=false) (hcl:Nz ops D)
 (hr:∀ e ∈ d.o.after,Region.binds .any e=true->D e.on=true) :
 (∀ o ∈ d.R,py ds st0.h D ds.length o=d.st.h.get o)/\∀ o,py ds st0.h (ye D i) ds.length o=if o ∈ d.W then d.fg.h.get o else py ds st0.h D ds.length o:=by
 have ho:=R.get hi;have hlt:i<ds.length:=(zg.1 hi).1;obtain ⟨a1,a2,a3,a4⟩:=R.Vo i d hi;have mP:=Je hcl ho hr;have late:∀ k e,ds[k]? = some e->i<k->(xw d.W e.W=false\/xw d.R e.W=false)->D k=false:=by
  intro k e hk hik hap;cases uT:D k with
  |false=>rfl
  |true=>
   rcases C i k d e hik hi hk with h6|⟨_,h6,h7⟩
   ·have:=hcl k i uT h6;rw [hD] at this;cases this
   ·rcases hap with q|q
    ·rw [h6] at q;cases q
    ·rw [h7] at q;cases q
 have vO:∀ {x y:List Nat} {o:Nat},o ∈ x->o ∈ y->xw x y=false:=by
  intro x y o hx hy;cases he:xw x y with
  |false=>rfl
  |true=>exact (adi he hx hy).elim
 refine ⟨fun o vZ=>?_,fun o=>?_⟩
 ·have:=ad1 (h0:=st0.h) (D:=D) (i:=i) (o:=o) (ds:=ds) (fun k e hk he=>?_) ds.length
  ·rw [this,a2 o];congr 1;omega
  ·rcases Nat.lt_trichotomy k i with gI|rfl|tO
   ·refine ⟨fun _=>gI,fun _=>?_⟩;rcases C k i e d gI hk hi with h6|⟨h6,_,_⟩
    ·exact mP k h6
    ·exact (adi h6 he vZ).elim
   ·exact ⟨(fun q=>by rw [hD] at q;cases q),(fun q=>by omega)⟩
   ·exact ⟨(fun q=>by have:=late k e hk tO (.inr (vO vZ he));rw [this] at q;cases q),(fun q=>by omega)⟩
 ·rw [ah0 hi (fun hW k e hk hik he=>late k e hk hik (.inl (vO hW he)))];by_cases hW:o ∈ d.W
  ·rw [if_pos ⟨hW,hlt⟩,if_pos hW]
  ·rw [if_neg (fun q=>hW q.1),if_neg hW]
structure At (H:(Nat->Bool)->Nat->Option bk) (ops:Array Oper) (ds:List DS) (L0:SL) (g0:Gh) (st0:St) (w0:World) (df:List Deferred) (nt:NT) (hi:Nat) (D:Nat->Bool) (a:Act) (w:World):Prop where
 mem:∃ g h,(∀ o,h.get o=H D o)/\Ok g h w/\Step g0 st0.h w0 st0.nx hi g h w/\(∀ t,Rel g w (p0 ds L0 D ds.length t) (a.tmps.getD t undef)) /\
  (∀ i d,ds[i]? = some d->D i=false->∀ o,d.st.nx<=o->o<d.fg.nx->g.inj o=none)
 size:tk nt a.tmps
 defers:a.defers=df
 closed:Nz ops D
theorem Ba {a:Act} {dst:Option Tmp} {u:Value} {t:Nat} (hd:∀ d,dst=some d->d<a.tmps.size):(a.put dst u).tmps.getD t undef=if dst=some t then u else a.tmps.getD t undef:=by
 cases dst with
 |none=>simp [Act.put]
 |some d=>
  simp only [Act.put,zze,zzz,Option.some.injEq];by_cases e:d=t
  ·subst e;rw [if_pos rfl,if_pos rfl,if_pos (hd d rfl)];rfl
  ·rw [if_neg e,if_neg e]
theorem At.step {H:(Nat->Bool)->Nat->Option bk} {P:Program} [KP P] {T:fp} (hT:S9 P T) {ops:Array Oper} {ds:List DS} {L0:SL} {g0:Gh} {st0:St} {w0:World} {df:List Deferred} {ro:Option Nat} {N:Nat} {nt:NT} {L':SL} {st':St} (R:Gw P T ops ds L0 st0 L' st') (hg:n5 nt ops=true) (iW:sj nt ops=true)
 {D:Nat->Bool} {a:Act} {w:World} {i:Nat} {d:DS} (hi:ds[i]? = some d) (AA:acy ops d.L d.o=some d.want) (obj:∀ o ∈ d.R,H D o=d.st.h.get o) (jM:∀ o,H (ye D i) o=if o ∈ d.W then d.fg.h.get o else H D o) (hD:D i=false) (hr:∀ e ∈ d.o.after,Region.binds .any e=true->D e.on=true) (A:At H ops ds L0 g0 st0 w0 df nt (tq ds st0.nx ds.length) D a w)
 {Q:Exit->Act->World->Prop} {K:Act->World->Prop} (hK:∀ a' w',At H ops ds L0 g0 st0 w0 df nt (tq ds st0.nx ds.length) (ye D i) a' w'->K a' w'):wpOpIn (fw ro) N P ops Q i K a w:=by
 have ho:=R.get hi;have hlt:i<ds.length:=(zg.1 hi).1;have hmem:d.o ∈ ops:=Array.mem_of_getElem? ho;have aB:=R.ok d (zm hi);obtain ⟨a1,a2,a3,a4⟩:=R.Vo i d hi;have mP:=Je A.closed ho hr;have hcl:=A.closed.ye ho hr;obtain ⟨g,h,h1,h2,h3,h4,h5⟩:=A.mem;have slot:∀ t ∈ E8 ops d.o,p0 ds L0 D ds.length t=lk d.L t:=by
  intro t ht;have:=afx (L0:=L0) (D:=D) (i:=i) (t:=t) (ds:=ds) (fun k e hk he=>?_) ds.length
  ·rw [this,a1 t];congr 1;omega
  ·rcases Nat.lt_trichotomy k i with gI|rfl|tO
   ·have:=R.slots i k d e t zO hi hk ht he;rw [show max i k=i from by omega,show min i k=k from by omega] at this;exact ⟨fun _=>gI,fun _=>mP k this⟩
   ·exact ⟨(fun q=>by rw [hD] at q;cases q),(fun q=>by omega)⟩
   ·have:=R.slots i k d e t zO hi hk ht he;rw [show max i k=k from by omega,show min i k=i from by omega] at this;exact ⟨(fun q=>by have:=A.closed k i q this;rw [hD] at this;cases this),(fun q=>by omega)⟩
 have gU:∀ t,d.o.dst=some t->∀ k e,ds[k]? = some e->i<k->e.o.dst=some t->D k=false:=by
  intro t ht k e hk hik he;have hu:t ∈ E8 ops d.o:=by simp [E8,ht]
  have:=R.slots i k d e t zO hi hk hu he;rw [show max i k=k from by omega,show min i k=i from by omega] at this;cases uT:D k with
  |false=>rfl
  |true=>have:=A.closed k i uT this;rw [hD] at this;cases this
 have kF:Region.wanted d.o (yielded ops a.tmps)=d.want:=by
  refine ate (g:=g) (w:=w) A.size.size (Be hg hmem) (fun j c hgd=>?_) AA;have hu:yr ops j ∈ E8 ops d.o:=by simp [E8,hgd]
  rw [<- slot _ hu];exact h4 _
 have iC:∀ (g':Gh) (w':World) (v:AV) (u:Value),(∀ t,Rel g' w' (p0 ds L0 D ds.length t) (a.tmps.getD t undef))->Rel g' w' v u->d.v=v->∀ t,Rel g' w' (p0 ds L0 (ye D i) ds.length t) ((a.put d.o.dst u).tmps.getD t undef):=by
  intro g' w' v u hall hv e t;rw [Ba (fun q hq=>by rw [A.size.size];exact (NT.Jm (nh iW hmem q hq)).1),aln hi (gU t)];by_cases hd:d.o.dst=some t
  ·rw [if_pos ⟨hd,hlt⟩,if_pos hd,e];exact hv
  ·rw [if_neg (fun q=>hd q.1),if_neg hd];exact hall t
 have bZ:∀ i d,ds[i]? = some d->d.st.nx=tq ds st0.nx i/\d.st.nx<=d.fg.nx:=fun i d hd=>⟨(R.Vo i d hd).2.2.1,(R.Vo i d hd).2.2.2⟩
 have vM:tq ds st0.nx (i+1)=d.fg.nx:=by rw [tq,hi]
 have free':∀ (g':Gh),(∀ o,g.inj o=none->¬ (d.st.nx<=o/\o<d.fg.nx)->g'.inj o=none)->∀ k e,ds[k]? = some e->ye D i k=false->∀ o,e.st.nx<=o->o<e.fg.nx->g'.inj o=none:=by
  intro g' hf k e hk tJ o q1 q2;have wE:k≠i:=fun q=>by subst q;simp [ye] at tJ
  simp only [ye,if_neg wE] at tJ;refine hf o (h5 k e hk tJ o q1 q2) (fun q=>?_);obtain ⟨e1,e2⟩:=bZ k e hk;rcases Nat.lt_or_gt_of_ne wE with hl|hl
  ·have:=wj bZ i (k+1) zO;rw [tq.eq_2,hk] at this;simp only at this;omega
  ·have:=wj bZ k (i+1) zO;rw [vM] at this;omega
 unfold wpOpIn;rw [ho];dsimp only;cases hw:d.want with
 |false=>
  rw [kF,hw,if_neg (by simp)];refine ⟨ll ro P d.o a w,?_⟩;obtain ⟨s1,s2,s3,s4⟩:=aB.skip hw;refine hK _ _ ⟨⟨g,h,fun o=>?_,h2,h3,iC g w (.sc undef) undef h4 (.sc _) s1,free' g (fun o q _=>q)⟩,A.size.put (nh iW hmem),by rw [put_defers];exact A.defers,hcl⟩;rw [h1 o,jM o,if_neg (fun q=>by rw [s4] at q;cases q)]
 |true=>
  rw [kF,hw,if_pos rfl];obtain ⟨r1,vL,r3,r4,r5⟩:=aB.run hw;have r2:∀ p ∈ d.R,p<=cz:=fun p hp=>by have:=vL p hp;omega
  have bA:∀ o x,(vr d.st.h d.R).get o=some x->h.get o=some x:=by
   intro o x hx;rw [Hp _ _ _ r2] at hx;by_cases hR:o ∈ d.R
   ·rw [if_pos hR] at hx;rw [h1 o,obj o hR,hx]
   ·rw [if_neg hR] at hx;cases hx
  have cB:qh g { h:=vr d.st.h d.R,nx:=d.st.nx,rl:=[],wl:=[] } d.fg:=fun o q1 q2=>h5 i d hi hD o q1 q2
  have hrel:qf g w (eg d.o d.L) a.eval:=ash fun t ⟨x,hx,e⟩=>by
   have hu:t ∈ E8 ops d.o:=by simp only [E8,zzq,List.mem_filterMap];exact .inl (.inr ⟨x,hx,by rw [e]⟩)
   rw [<- slot t hu];exact h4 t
  have bJ:Low { h:=vr d.st.h d.R,nx:=d.st.nx,rl:=[],wl:=[] }:=fun o x hx=>by
   simp only [Hp _ _ _ r2] at hx;by_cases hR:o ∈ d.R
   ·exact vL o hR
   ·rw [if_neg hR] at hx;cases hx
  refine aya hT (h2.part bA) cB bJ hrel r1 ro N _ _ ?_;rintro u w' ⟨g',q1,q2,q3⟩;have lq:∀ p ∈ d.R++ff d.st.nx (d.fg.nx - d.st.nx),p<=cz:=fun p hp=>by
   rcases zzq.1 hp with hp|hp
   ·exact r2 p hp
   ·rw [qe] at hp;omega
  have wG:=at1 (h':=zz d.fg.h (d.R++ff d.st.nx (d.fg.nx - d.st.nx)) h) (S:=fun o=>o ∈ d.R++ff d.st.nx (d.fg.nx - d.st.nx)) h2 bA (fun o x hx=>by
   rw [Hp _ _ _ r2] at hx;by_cases hR:o ∈ d.R
   ·exact zzq.2 (.inl hR)
   ·rw [if_neg hR] at hx;cases hx) q1 q2 (fun o hS=>by rw [Ea _ _ _ _ lq,if_pos hS]) (fun o hS=>by rw [Ea _ _ _ _ lq,if_neg hS]) (fun o e1 e2=>zzq.2 (.inr (by have nN:d.st.nx<=o:=e1;have nM:o<d.fg.nx:=e2;rw [qe];omega)))
  have n1:st0.nx<=d.st.nx:=by rw [a3];exact wj bZ i 0 (zzb _)
  have n2:d.fg.nx<=tq ds st0.nx ds.length:=by rw [<- vM];exact wj bZ ds.length (i+1) hlt
  refine hK _ _ ⟨⟨g',_,fun o=>?_,wG.2,h3.both (wG.1.avn n1 n2),iC g' w' d.v u (fun t=>(h4 t).ext q1.ext) q3 rfl,free' g' (fun o e1 e2=>q1.fresh o e1 e2)⟩,A.size.put (nh iW hmem),by rw [put_defers];exact A.defers,hcl⟩;rw [Ea _ _ _ _ lq,jM o];by_cases hW:o ∈ d.W
  ·rw [if_pos hW,if_pos];rcases (r4 o).1 hW with hq|hq
   ·exact zzq.2 (.inl hq.2)
   ·exact zzq.2 (.inr (by rw [qe];omega))
  ·rw [if_neg hW];by_cases hR:o ∈ d.R
   ·rw [if_pos (zzq.2 (.inl hR)),<- r5 o hR hW,obj o hR]
   ·rw [if_neg,h1 o];intro hm;rcases zzq.1 hm with hm|hm
    ·exact hR hm
    ·rw [qe] at hm;exact hW ((r4 o).2 (.inr zO))
theorem aBe {listed:Array Bool} {i:Nat} (hi:i<listed.size):(fun k=>(listed.setIfInBounds i true).getD k false)=ye (fun k=>listed.getD k false) i:=by
 funext k
 simp only [ye,zze,zzz];by_cases e:i=k
 ·subst e;simp [hi]
 ·rw [if_neg e,if_neg (Ne.symm e)]
theorem aJa {H:(Nat->Bool)->Nat->Option bk} {P:Program} [KP P] {T:fp} {ops:Array Oper} {ds:List DS} {L0:SL} {g0:Gh} {st0:St} {w0:World} {df:List Deferred} {ro:Option Nat} {N:Nat} {nt:NT} {L':SL} {st':St} (R:Gw P T ops ds L0 st0 L' st') {Q:Exit->Act->World->Prop}
 (hstep:∀ (D:Nat->Bool) (a:Act) (w:World) (i:Nat) (d:DS) (K:Act->World->Prop),ds[i]? = some d->D i=false->(∀ e ∈ d.o.after,Region.binds .any e=true->D e.on=true)->At H ops ds L0 g0 st0 w0 df nt (tq ds st0.nx ds.length) D a w->(∀ a' w',At H ops ds L0 g0 st0 w0 df nt (tq ds st0.nx ds.length) (ye D i) a' w'->K a' w')->wpOpIn (fw ro) N P ops Q i K a w) (hQ:∀ D a w,(∀ i,i<ds.length->D i=true)->At H ops ds L0 g0 st0 w0 df nt (tq ds st0.nx ds.length) D a w->Q .normal a w) :
 ∀ (fuel:Nat) (listed:Array Bool) (a:Act) (w:World),listed.size=ops.size->left (fun k=>listed.getD k false) ops.size<=fuel->At H ops ds L0 g0 st0 w0 df nt (tq ds st0.nx ds.length) (fun k=>listed.getD k false) a w ->
  wpAnyIn (fw ro) N P .any ops Q fuel listed a w:=by
 have flip:∀ (listed:Array Bool) (i:Nat),i<listed.size->listed.getD i true=listed.getD i false:=by intro listed i hi;simp [hi]
 intro fuel
 induction fuel with
 |zero=>
  intro listed a w hsz hl A;have hall:=adp ops.size (Nat.le_zero.1 hl);refine ⟨?_,hQ _ a w (fun i hi=>hall i (by rw [<- R.len];exact hi)) A⟩;cases hr:Region.ready .any ops listed with
  |nil=>rfl
  |cons i r=>
   have:i ∈ Region.ready .any ops listed:=by rw [hr];simp
   rw [mem_ready] at this;obtain ⟨h0,o,ho,_⟩:=this;have hlt:i<ops.size:=(zz1.1 ho).1;rw [flip listed i zO] at h0;have:=hall i hlt;rw [h0] at this;cases this
 |succ fuel ih=>
  intro listed a w hsz hl A;refine ⟨fun hnil=>?_,fun i hi=>?_⟩
  ·refine hQ _ a w (fun i hi=>?_) A;cases BO:listed.getD i false with
   |true=>rfl
   |false=>
    exfalso;obtain ⟨k,h1,h2,h3⟩:=X4 (D:=fun k=>listed.getD k false) ops.size ⟨i,by rw [<- R.len];exact hi,BO⟩;have hk:k ∈ Region.ready .any ops listed:=by rw [mem_ready];refine ⟨by rw [flip listed k zO];exact h2,ops[k],by simp [h1],fun e he hb=>h3 _ (R.aKu k ops[k] (by simp [h1]) e he hb)⟩
    rw [hnil] at hk;cases hk
  ·rw [mem_ready] at hi;obtain ⟨h0,o,ho,hall⟩:=hi;have hlt:i<ops.size:=(zz1.1 ho).1;rw [flip listed i zO] at h0;obtain ⟨d,hd⟩:=R.has hlt;have kQ:=R.get hd;rw [ho] at kQ;obtain rfl:o=d.o:=Option.some.inj kQ;refine hstep _ a w i d _ hd h0 hall A (fun a' w' A'=>?_);have hu:=aBe (listed:=listed) (i:=i) zO;refine ih _ a' w' (by simp [hsz]) ?_ (by rw [hu];exact A');rw [hu];have:=amx (D:=fun k=>listed.getD k false) (i:=i) h0 ops.size;rw [if_pos hlt] at this;omega
theorem aqc (D:Nat->Bool):∀ m,left D m<=m
 |0=>by simp [left]
 |m+1=>by
  have:=aqc D m;rw [left];cases D m
  ·rw [cond_false];omega
  ·rw [cond_true];omega
theorem ae5 {ds:List DS} {h0:Tr bk} {o:Nat}:∀ m,py ds h0 (fun _=>false) m o=h0.get o
 |0=>rfl
 |m+1=>by rw [py];cases ds[m]? <;> simp [ae5 m]
theorem aft {ds:List DS} {L0:SL} {t:Nat}:∀ m,p0 ds L0 (fun _=>false) m t=lk L0 t
 |0=>rfl
 |m+1=>by rw [p0];cases ds[m]? <;> simp [aft m]
theorem aka {ds:List DS} {h0:Tr bk} {D:Nat->Bool} {o:Nat}:∀ m,(∀ i,i<m->D i=true)->py ds h0 D m o=py ds h0 (fun _=>true) m o
 |0,_=>rfl
 |m+1,h=>by rw [py,py];simp only [h m zO,aka m (fun i hi=>h i zO)]
theorem ana {ds:List DS} {L0:SL} {D:Nat->Bool} {t:Nat}:∀ m,(∀ i,i<m->D i=true)->p0 ds L0 D m t=p0 ds L0 (fun _=>true) m t
 |0,_=>rfl
 |m+1,h=>by rw [p0,p0];simp only [h m zO,ana m (fun i hi=>h i zO)]
theorem Marks.congr {D:List Deferred} {n0:Nat} {h h':Tr bk} {g:Gh} {w:World} {ds:List Deferred} (hm:Marks D n0 h g w ds) (he:∀ o,h.get o=h'.get o):Marks D n0 h' g w ds:=by obtain ⟨bs,h1,h2,h3⟩:=hm;exact ⟨bs,h1,h2,fun b hb=>⟨(h3 b hb).1,(h3 b hb).2.1,fun o base ho=>(h3 b hb).2.2 o base (by rw [he];exact ho)⟩⟩
theorem aki {P:Program} [KP P] {T:fp} (hT:S9 P T) (hm:P.follows .mixedOrders=true) {ops:Array Oper} {ro:Option Nat} {N:Nat} {B:dz} {nt:NT} {id:Nat} {Q:Exit->Act->World->Prop} {K:SL->St->Prop} (hg:n5 nt ops=true) (iW:sj nt ops=true)
 {L:SL} {st:St} {g:Gh} {w:World} {a:Act} (kK:∀ L' st',K L' st'->B.avw st.nx st'.nx) (hK:∀ L st g w a',K L st->mf B g st w->kj g w nt L a'.tmps->Marks B.D B.n0 st.h g w a'.defers->a'.defers=a.defers->Q .normal a' w) (h:I1 P T ops true K L st) (hc:mf B g st w) (hr:kj g w nt L a.tmps) (hd:Marks B.D B.n0 st.h g w a.defers) :
 (Code.region id ops true).wpIn (fw ro) N P Q a w:=by
 obtain ⟨hs,h⟩:=h;obtain ⟨ds,L',st',e1,e2,e3,e4,e5⟩:=aAm _ _ _ _ (h.elim (am6 _ _ _ _) fun h=>h);obtain ⟨c1,c2,c3,c4⟩:=aAn (fun d hd=>(e2 d hd).toDSRun) e3;unfold Tp at hs;rw [zzh] at hs;have R:Gw P T ops ds L st L' st':=by
  refine ⟨e1,fun d hd=>(e2 d hd).toDSRun,c1,⟨c2,c3,c4⟩,fun i k x y t hik hx hy ht AP=>?_,fun i o ho e he hb=>?_⟩
  ·have rY:(x.o,i) ∈ ops.toList.zipIdx:=by
    rw [List.mem_zipIdx_iff_getElem?,<- e1];simp [hx]
   have yF:(y.o,k) ∈ ops.toList.zipIdx:=by rw [List.mem_zipIdx_iff_getElem?,<- e1];simp [hy]
   have h1:=zz9.1 hs.1 _ rY;have h2:=zz9.1 h1 t ht;have h3:=zz9.1 h2 _ yF;simp only [AP,Bool.or_eq_true] at h3;rcases h3 with (h3|h3)|h3
   ·simp at h3
   ·simp at h3;omega
   ·rw [Nat.max_comm,Nat.min_comm];exact h3
  ·have hoi:(o,i) ∈ ops.toList.zipIdx:=by rw [List.mem_zipIdx_iff_getElem?];simpa using ho
   have h1:=zz9.1 hs.2 _ hoi;rw [Array.all_eq_true_iff_forall_mem] at h1;have:=h1 e he;rw [hb] at this;simpa using this
 have C:Calm ops ds:=fun i k x y hik hx hy=>by
  have:=Vq _ 0 e4 i k ⟨x.R,x.W⟩ ⟨y.R,y.W⟩ hik (by simp [hx]) (by simp [hy]);simp only [Pq,Nat.zero_add,Bool.or_eq_true,zzh] at this;rcases this with h1|h1
  ·exact .inr ⟨h1.1.1,h1.1.2,h1.2⟩
  ·exact .inl h1
 have hc1:=hc.drawn;have bP:Marks B.D B.n0 st.h g { w with drawn:=w.drawn+1 } a.defers:=hd;have bZ:∀ i d,ds[i]? = some d->d.st.nx=tq ds st.nx i/\d.st.nx<=d.fg.nx:=fun i d hd=>⟨(c1 i d hd).2.2.1,(c1 i d hd).2.2.2⟩
 refine wpIn_region_any hm (aJa (H:=fun D o=>py ds st.h D ds.length o) (L0:=L) (g0:=g) (st0:=st) (w0:={ w with drawn:=w.drawn+1 }) (df:=a.defers) R (fun D a w i d K hi hD hr A hK=>At.step hT R hg iW hi (e2 d (zm hi)).g (ai5 R C hi hD A.closed hr).1 (ai5 R C hi hD A.closed hr).2 hD hr A hK) ?_ ops.size _ a _ (by simp) ?_ ?_)
 ·intro D a' w' hall A;obtain ⟨g',h',q1,q2,q3,q4,q5⟩:=A.mem;have hh:∀ o,h'.get o=st'.h.get o:=fun o=>by rw [q1 o,aka _ hall,c3 o]
  have hle:st.nx<=st'.nx:=by rw [c4];exact wj bZ ds.length 0 (zzb _)
  refine hK L' st' g' w' a' e5 (hc1.step (kK _ _ e5) ⟨hle,?_⟩ (q2.congr hh)) ⟨A.size,fun t=>?_⟩ (by rw [A.defers];exact Marks.congr (Marks.step q3 bP) hh) A.defers
  ·rw [c4];exact q3.congr hh
  ·rw [c2 t,<- ana _ hall];exact q4 t
 ·exact aqc _ _
 ·have hf:(fun k=>(Array.replicate ops.size false).getD k false)=fun _=>false:=by
   funext k
   simp only [zze,Array.getElem?_replicate]
   split<;>rfl
  rw [hf];exact ⟨⟨g,st.h,fun o=>(ae5 _).symm,hc1.ok,.refl _ _ _ _ _,fun t=>by
   rw [aft];exact (hr.2 t).ext (Ext.same (w:=w) (w':={ w with drawn:=w.drawn+1 }) rfl),fun i d hd _ o h1 h9=>hc.fresh o (by
   have:=wj bZ i 0 (zzb _);rw [(c1 i d hd).2.2.1] at h1;exact zzu this h1) (kK _ _ e5 o (by
   have:=wj bZ i 0 (zzb _);rw [(c1 i d hd).2.2.1] at h1;exact zzu this h1) (by
   rw [c4];have h10:=wj bZ ds.length (i+1) (zg.1 hd).1;rw [tq.eq_2,hd] at h10;exact zyd h9 h10))⟩,hr.1,rfl,fun i k hik=>by cases hik⟩
theorem Af {P:Program} [KP P] {b:Frame} {a:Act} {k:List Item} {cs:List Frame} {w:World} {c:Code}:step P (lone (b.atR a (.code (.scope c)::k)) cs w) = .next (lone (b.atR a (.code c :: .inScope c::k)) cs w):=
 step_lone_go (by simp [stepG,stepG.exec,Frame.atR])
theorem agx {P:Program} [KP P] {b:Frame} {a:Act} {k:List Item} {cs:List Frame} {w:World} {c:Code}:step P (lone (b.atR a (.inScope c::k)) cs w) = .next (lone (b.atR a k) cs w):=
 step_lone_go (by simp [stepG,stepG.exec,Frame.atR])
theorem Qp {F:Fence} {n:Nat} {P:Program} [KP P] {Q:Exit->Act->World->Prop} {a:Act} {w:World} {c:Code} (h:c.wpIn F n P (Exit.noGoto Q) a w):(Code.scope c).wpIn F n P Q a w:=by
 intro b k cs hro hb hr;obtain ⟨e,a₁,w₁,hq,harr⟩:=h b (.inScope c::k) cs hro hb hr;have h0:=fenced_calm (P:=P) (F:=F) (fr:=b.atR a (.code (.scope c)::k)) (cs:=cs) (w:=w) (n:=n) hb hr rfl;cases e with
 |normal=>exact ⟨.normal,a₁,w₁,hq,.head h0 Af (StepsIn.trans harr (.one (fenced_calm (fr:=b.atR a₁ (.inScope c::k)) hb hr rfl) agx))⟩
 |exit id=>
  have hx:exitTo id (.inScope c::k)=exitTo id k:=by simp [exitTo]
  exact ⟨.exit id,a₁,w₁,hq,fun k' hk=>.head h0 Af (harr.1 k' (by rw [hx];exact hk)),
   fun hr' hk=>let ⟨k₁,h1,h2⟩:=harr.2 hr' (by rw [hx];exact hk);⟨k₁,h1,.head h0 Af h2⟩⟩
 |goto l=>exact hq.elim
 |ret=>exact ⟨_,a₁,w₁,hq,.of_steps (.one h0 Af) harr⟩
 |panic ch=>exact ⟨_,a₁,w₁,hq,.of_steps (.one h0 Af) harr⟩
 |outgrown=>exact ⟨_,a₁,w₁,hq,.of_steps (.one h0 Af) harr⟩
theorem ayy {P:Program} [KP P] {T:fp} (hT:ak P T) (hm:P.follows .mixedOrders=true) {ro:Option Nat} {N:Nat} {B:dz} {nt:NT} (aF:B.iw) (hp:B.bg<=1000) (rf:Bool)
 (yV:rf=true->∀ f ps dX body,fq nt (.rangeFunc f ps dX body)=true->Wu P ro N B nt (.rangeFunc f ps dX body) (wl P T B.bg (.rangeFunc f ps dX body))) :
 ∀ c:Code,fq nt c=true->(rf=true\/c.x7=true)->Wu P ro N B nt c (wl P T B.bg c):=by
 intro c;have both:∀ {x y:Bool},(rf=true\/(x && y)=true)->(rf=true\/x=true)/\(rf=true\/y=true):=by
  intro x y h;rcases h with h|h
  ·exact ⟨.inl h,.inl h⟩
  ·rw [zzh] at h;exact ⟨.inr h.1,.inr h.2⟩
 induction c with
 |skip=>intro _ _ Q L st g w a h hc hr hd;exact wpIn_skip (Fin.mk' (e:=.normal) h hc hr hd)
 |label l=>intro _ _ Q L st g w a h hc hr hd;exact wpIn_label (Fin.mk' (e:=.normal) h hc hr hd)
 |exit id=>intro _ _ Q L st g w a h hc hr hd;exact wpIn_exit (Fin.mk' (e:=.exit id) h hc hr hd)
 |ret=>intro _ _ Q L st g w a h hc hr hd;exact wpIn_ret (Fin.mk' (e:=.ret) h hc hr hd)
 |region id ops draw=>
  intro hs hpl Q L st g w a h hc hr hd;simp only [fq,zzh] at hs;cases draw with
  |false=>
   refine wpIn_region (aqo hT aF hs.2 hs.1 (fun L st g w a h hc hr hd=>Fin.mk' (e:=.normal) h hc hr hd) ops.toList _ (by simp) (Lh ops) L st g w a h hc hr hd)
  |true=>exact aki hT.toF hm hs.2 hs.1 (fun _ _ _=>aF.vw _ _) (fun L st g w a h hc hr hd _=>Fin.mk' (e:=.normal) h hc hr hd) h hc hr hd
 |seq x y lB lA=>
  intro hs hpl Q L st g w a h hc hr hd;simp only [fq,zzh] at hs;refine wpIn_seq (wpIn_mono (lB hs.1 (both hpl).1 _ L st g w a h hc hr hd) ?_);rintro ex a' w' ⟨e,L',st',g',rfl,hq,hc',hr',bP⟩;cases e with
  |normal=>exact lA hs.2 (both hpl).2 Q L' st' g' w' a' hq hc' hr' bP
  |exit id=>exact ⟨.exit id,L',st',g',rfl,hq,hc',hr',bP⟩
  |ret=>exact ⟨.ret,L',st',g',rfl,hq,hc',hr',bP⟩
 |cond c x y lB lA=>
  intro hs hpl Q L st g w a h hc hr hd;simp only [fq,zzh] at hs;obtain ⟨v,hv,h1,h2⟩:=Vj h;have hev:=Yx (hr.eval c) hv;cases v with
  |true=>exact wpIn_cond_true hev (lB hs.1 (both hpl).1 Q L st g w a (h1 rfl) hc hr hd)
  |false=>exact wpIn_cond_false hev (lA hs.2 (both hpl).2 Q L st g w a (h2 rfl) hc hr hd)
 |block id x ih=>
  intro hs hpl Q L st g w a h hc hr hd;refine wpIn_block (wpIn_mono (ih hs hpl _ L st g w a h hc hr hd) ?_);rintro ex a' w' ⟨e,L',st',g',rfl,hq,hc',hr',bP⟩;cases e with
  |normal=>exact ⟨.normal,L',st',g',rfl,hq,hc',hr',bP⟩
  |ret=>exact ⟨.ret,L',st',g',rfl,hq,hc',hr',bP⟩
  |exit j=>
   simp only [Ob] at hq;by_cases e:j=id
   ·subst e;simp only [Nat.beq_refl,cond_true] at hq;simp only [wg,Exit.inBlock,if_true];exact ⟨.normal,L',st',g',rfl,hq,hc',hr',bP⟩
   ·rw [uk e,cond_false] at hq;simp only [wg,Exit.inBlock,if_neg e];exact ⟨.exit j,L',st',g',rfl,hq,hc',hr',bP⟩
 |loop x ih=>
  intro hs hpl Q L st g w a h hc hr hd;exact aFg aF hp (ih hs hpl) Q L st g w a h hc hr hd
 |scope x ih=>
  intro hs hpl Q L st g w a h hc hr hd;refine Qp (wpIn_mono (ih hs hpl Q L st g w a h hc hr hd) ?_);rintro ex a' w' ⟨e,L',st',g',rfl,hq,hc',hr',bP⟩;cases e<;>exact ⟨_,L',st',g',rfl,hq,hc',hr',bP⟩
 |rangeFunc f ps dX body=>
  intro hs hpl;rcases hpl with hpl|hpl
  ·exact yV hpl f ps dX body hs
  ·cases hpl
 |goto l=>intro _ _ Q L st g w a h;exact h.elim
 |refuse why=>intro _ _ Q L st g w a h;exact h.elim
theorem ank {P:Program} [KP P] {T:fp} (hT:ak P T) (hm:P.follows .mixedOrders=true) {ro:Option Nat} {N:Nat} {B:dz} {nt:NT} (aF:B.iw) (hp:B.bg<=1000) (c:Code) (hs:fq nt c=true) (hpl:c.x7=true):Wu P ro N B nt c (wl P T B.bg c):=
 ayy hT hm aF hp false (fun h=>by cases h) c hs (.inr hpl)
def lr (g:Gh) (h:Tr bk) (w:World) (p:Nat) (x:Nat->Prop) (far:Nat->Prop:=fun _=>False):dz:=
 { b0:=g.b0,w,K:=g.K,O:=fun b=>x b\/∃ o base,(h.get o).isSome=true/\g.inj o=some (b,base),bg:=p,pb:=g.inj,n0:=0,far:=far }
theorem mf.Vo {B g st w} (h:mf B g st w) (p:Nat) (x:Nat->Prop) (hp:p<=st.nx) {far:Nat->Prop} (hf:∀ o,B.far o->far o):mf (lr g st.h w p x far) g st w:=
 ⟨h.ok,fun o h1 h2=>h.fresh o h1 (fun h3=>h2 (hf o h3)),⟨rfl,fun _o CV=>rfl,fun _ _ h=>h,fun _ _ _=>rfl,zza _,rfl,rfl,rfl,fun _ _ _=>rfl,fun o _b base ho hi=>.inr (.inr ⟨o,base,ho,hi⟩),fun _ _ h=>.inl h,
  fun _b cs _e fr h=>⟨cs,fr,h,rfl⟩,fun _b l h=>⟨l,h⟩,fun _ _ _ _ _ _=>rfl⟩,hp⟩
theorem ub.comp {B g h w p x far g' h' w'} (b:ub B g h w) (c:ub (lr g h w p x far) g' h' w') (hp:B.bg<=p) (hf:∀ o,B.far o->far o) (hx:∀ n,x n->B.w.heap.size<=n\/B.O n):ub B g' h' w':=by
 have hO:∀ n,(lr g h w p x far).O n->B.w.heap.size<=n\/B.O n:=by
  rintro n (hn|⟨o,base,h1,h2⟩)
  ·exact hx n hn
  ·exact b.own o n base h1 h2
 refine ⟨c.b0.trans b.b0,fun o ho=>?_,fun i j hk=>c.K i j (b.K i j hk),fun i j hk=>(c.cell i j (b.K i j hk)).trans (b.cell i j hk),zzu b.size c.size,c.os.trans b.os,c.tape.trans b.tape,c.output.trans b.output,fun n hn kL=>?_,fun o n base ho hi=>?_,fun n j hk=>?_,fun n cs e fr hn=>?_,fun n l hn=>?_,fun n cs e fr hn hK=>(c.whole n cs e fr ((b.whole n cs e fr hn hK).trans hn) (fun j=>b.K n j (hK j))).trans (b.whole n cs e fr hn hK)⟩
 ·have h1:=c.pins o (ho.imp (fun h=>zyd h hp) (hf o));exact Eq.trans h1 (b.pins o ho)
 ·refine (c.frame n (zyd hn b.size) (fun BH=>?_)).trans (b.frame n hn kL);rcases hO n BH with h1|h1
  ·omega
  ·exact kL h1
 ·rcases c.own o n base ho hi with h1|h1
  ·exact .inl (zzu b.size h1)
  ·exact hO n h1
 ·rcases c.o0 n j hk with h1|h1|h1
  ·exact b.o0 n j h1
  ·exact .inr (.inl (zzu b.size h1))
  ·exact .inr (hO n h1)
 ·obtain ⟨cs1,kA,h1,h2⟩:=b.ju n cs e fr hn;obtain ⟨kX,rS,h3,h4⟩:=c.ju n cs1 e kA h1;exact ⟨kX,rS,h3,h4.trans h2⟩
 ·obtain ⟨l1,h1⟩:=b.lp n l hn;exact c.lp n l1 h1
theorem ub.akv {g h w p x far g' h' w'} (c:ub (lr g h w p x far) g' h' w') (hn:∀ o,p<=o->¬ far o->g.inj o=none):Ext g w g' w':=
 ⟨c.b0,(fun o q hq=>by
  by_cases ho:o<p\/far o
  ·exact (c.pins o ho).trans hq
  ·rw [hn o zO (fun h=>ho (.inr h))] at hq;cases hq),c.K,c.cell,c.ju,c.lp,c.whole⟩
theorem ub.aJ7 {g h w p x y far g' h' w'} (c:ub (lr g h w p x far) g' h' w') (gX:∀ n,x n->y n):ub (lr g h w p y far) g' h' w':=by
 have hO:∀ n,(lr g h w p x far).O n->(lr g h w p y far).O n:=fun n hn=>hn.imp (gX n) id
 exact ⟨c.b0,c.pins,c.K,c.cell,c.size,c.os,c.tape,c.output,fun n hn kL=>c.frame n hn (fun h=>kL (hO n h)),fun o n base ho hi=>(c.own o n base ho hi).imp id (hO n),fun n j hk=>(c.o0 n j hk).imp id (·.imp id (hO n)),c.ju,c.lp,c.whole⟩
theorem ub.Uj {g h w p x far g' h' w' b} (c:ub (lr g h w p x far) g' h' w') (hb:b<w.heap.size) (hu:ja g h b) (hx:¬ x b):ja g' h' b/\w'.heap[b]? = w.heap[b]? := by
 have hO:¬ (lr g h w p x far).O b:=by
  rintro (h1|⟨o,base,h1,h2⟩)
  ·exact hx h1
  ·exact hu o base h1 h2
 refine ⟨fun o base ho hi=>?_,c.frame b hb hO⟩;rcases c.own o b base ho hi with h1|h1
 ·have:w.heap.size<=b:=h1;omega
 ·exact hO h1
theorem Marks.base {D g h w p x far g' h' w' n0 ds} (c:ub (lr g h w p x far) g' h' w') (hm:Marks D n0 h g w ds) (hx:∀ b,x b->∃ l,w.heap[b]? = some (.loop l)):Marks D n0 h' g' w' ds:=by obtain ⟨bs,h1,h2,h3⟩:=hm;refine ⟨bs,h1,h2,fun b hb=>?_⟩;obtain ⟨q1,q2,q3⟩:=h3 b hb;have:=c.Uj (cd q2) q3 (fun hxb=>by obtain ⟨l,hl⟩:=hx b hxb;rw [q2] at hl;cases hl);exact ⟨q1,this.2.trans q2,this.1⟩
theorem azh {g h w w'} (lo hi:Nat) (aB:Ok g h w) (hsz:w.heap.size<=w'.heap.size) (hh:∀ b,b<w.heap.size->w'.heap[b]? = w.heap[b]?) (h1:w'.os=w.os) (h2:w'.tape=w.tape) (h3:w'.output=w.output) :
 Step g h w lo hi g h w'/\Ok g h w':=by
 have aI:Ext g w g w':=⟨rfl,fun _ _ h=>h,fun _ _ h=>h,fun b j hj=>th (hh b (aB.K b j hj)),fun b cs e fr hb=>⟨cs,fr,(hh b (cd hb)).trans hb,rfl⟩,fun b l hb=>⟨l,(hh b (cd hb)).trans hb⟩,fun b cs e fr hb _=>hh b (cd hb)⟩;refine ⟨⟨aI,hsz,h1,h2,h3,fun b hb _=>hh b hb,fun _ h _=>h,fun o b base ho hi=>.inr ⟨o,base,ho,hi⟩,fun b j hk=>.inl hk⟩,⟨zzu aB.size hsz,fun o x hx=>?_,aB.sep,fun b j hk=>zyd (aB.K b j hk) hsz⟩⟩;refine (aB.px o x hx).imp id ?_;rintro ⟨b,base,p1,p2,p3⟩;exact ⟨b,base,p1,p2,p3.ext aI (hh b p3.lt) (fun _ hk=>hk)⟩
theorem Cp {B g st w l r r'} (hc:mf B g st w) (hl:w.heap[l]? = some (.loop r)) (hu:ja g st.h l) (hO:B.O l):mf B g st (j6 w l (.loop r'))/\Ext g w g (j6 w l (.loop r')):=by
 have hne:∀ {c:Nat} {o:Obj},w.heap[c]? = some o->(∀ r,o ≠ .loop r)->c≠l:=fun hc ho e=>by subst e;rw [hl] at hc;cases hc;exact ho r rfl
 have hcell:∀ c j,(j6 w l (.loop r')).cell? ⟨c,j,none⟩=w.cell? ⟨c,j,none⟩:=fun c j=>by
  by_cases e:c=l
  ·subst e;simp [World.cell?,kc _ (cd hl),hl]
  ·exact th (gm w _ e)
 have aI:Ext g w g (j6 w l (.loop r')):=by
  refine ⟨rfl,fun _ _ h=>h,fun _ _ h=>h,fun c j _=>hcell c j,fun c cs e fr h=>?_,fun c q h=>?_,fun c cs e fr h _=>gm w _ (hne h (fun r e=>by cases e))⟩
  ·exact ⟨cs,fr,(gm w _ (hne h (fun r e=>by cases e))).trans h,rfl⟩
  ·by_cases e:c=l
   ·subst e;exact ⟨r',kc _ (cd hl)⟩
   ·exact ⟨q,(gm w _ e).trans h⟩
 refine ⟨⟨⟨by rw [pd];exact hc.ok.size,fun o x hx=>?_,hc.ok.sep,fun c j hk=>by rw [pd];exact hc.ok.K c j hk⟩,hc.fresh,?_,hc.bg⟩,aI⟩
 ·refine (hc.ok.px o x hx).imp id ?_;rintro ⟨c,base,h1,h2,h3⟩;exact ⟨c,base,h1,h2,h3.ext aI (gm w _ (fun e=>hu o base (by rw [hx];rfl) (by rw [<- e];exact h1))) (fun _ h=>h)⟩
 ·have b:=hc.base;refine ⟨b.b0,b.pins,b.K,fun c j hk=>(hcell c j).trans (b.cell c j hk),by rw [pd];exact b.size,b.os,b.tape,b.output,fun c hc' wL=>?_,b.own,b.o0,fun c cs e fr h=>?_,fun c q h=>?_,fun c cs e fr h hK=>(gm w _ (hne ((b.whole c cs e fr h hK).trans h) (fun r e=>by cases e))).trans (b.whole c cs e fr h hK)⟩
  ·exact (gm w _ (fun e=>wL (by rw [e];exact hO))).trans (b.frame c hc' wL)
  ·obtain ⟨cs1,kA,h1,h2⟩:=b.ju c cs e fr h;exact ⟨cs1,kA,(gm w _ (hne h1 (fun r e=>by cases e))).trans h1,h2⟩
  ·obtain ⟨q1,h1⟩:=b.lp c q h;exact aI.lp c q1 h1
theorem Marks.Cp {D n0 h g w ds l r r'} (hm:Marks D n0 h g w ds) (hl:w.heap[l]? = some (.loop r)):Marks D n0 h g (j6 w l (.loop r')) ds:=by obtain ⟨bs,h1,h2,h3⟩:=hm;refine ⟨bs,h1,h2,fun b hb=>⟨(h3 b hb).1,(gm w _ (fun e=>?_)).trans (h3 b hb).2.1,(h3 b hb).2.2⟩⟩;have:=(h3 b hb).2.1;rw [e,hl] at this;cases this
theorem av2 (h:Tr bk):∀ (n:Nat) (todo acc:List Nat) (o:Nat),o ∈ reach h n todo acc->o ∈ acc\/(h.get o).isSome=true:=by
 intro n
 induction n with
 |zero=>intro todo acc o ho;exact .inl ho
 |succ n ih=>
  intro todo acc o ho;cases todo with
  |nil=>exact .inl ho
  |cons a r=>
   simp only [reach] at ho;cases hc:acc.contains a with
   |true=>rw [hc] at ho;exact ih r acc o ho
   |false=>
    rw [hc,cond_false] at ho;cases ha:h.get a with
    |none=>rw [ha] at ho;exact ih r acc o ho
    |some x=>
     rw [ha] at ho;rcases ih _ _ o ho with h1|h1
     ·rcases zzq.1 h1 with h2|h2
      ·exact .inl h2
      ·simp at h2;subst h2;exact .inr (by rw [ha];rfl)
     ·exact .inr h1
theorem Wn {B:dz} {g:Gh} {st:St} {w:World} (EL:mf B g st w) (keep:List Nat) (L:SL) :
 B.bg<=(gk B.bg keep L st).length/\(gk B.bg keep L st).length<=(ay (gk B.bg keep L st)).nx/\(∀ i,(gk B.bg keep L st).length<=i->(g.cx (jx B.bg keep L st)).inj i=none):=by
 have hN:=C5 st.h gu (AV.names.go (keep.map (lk L))++sw st.h (ff 0 B.bg)) (ff 0 B.bg) (vh _ _);have hm:=av2 st.h gu (AV.names.go (keep.map (lk L))++sw st.h (ff 0 B.bg)) (ff 0 B.bg);change (jx B.bg keep L st).Nodup/\(∃ r,jx B.bg keep L st=ff 0 B.bg++r)/\(jx B.bg keep L st).length<=_ at hN;change ∀ o,o ∈ jx B.bg keep L st->_ at hm;unfold gk;rw [kb];generalize jx B.bg keep L st=N at hN hm;obtain ⟨_,⟨rest,hpre⟩,_⟩:=hN;refine ⟨by rw [hpre,za,j8];omega,by simp [ay,kb],fun i hi=>by simp [Gh.cx,zzy hi]⟩
theorem Ch {B:dz} {g:Gh} {st:St} {L:SL} {b:Nat} (hp:B.bg<=1000) (keep:List Nat) (hu:ja g st.h b):ja (g.cx (jx B.bg keep L st)) (ay (gk B.bg keep L st)).h b:=by
 have hN:=C5 st.h gu (AV.names.go (keep.map (lk L))++sw st.h (ff 0 B.bg)) (ff 0 B.bg) (vh _ _);change (jx B.bg keep L st).Nodup/\(∃ r,jx B.bg keep L st=ff 0 B.bg++r)/\(jx B.bg keep L st).length<=_ at hN;unfold gk;generalize jx B.bg keep L st=N at hN;obtain ⟨cR,⟨rest,hpre⟩,hlen⟩:=hN;rw [j8] at hlen;have aD:N.length<=cz:=by simp only [gu,cz] at *;omega
 intro i base hi hj;obtain ⟨x,hx⟩:=zzv.1 hi;simp only [ay] at hx;rw [wo _ _ _ (by rw [kb];omega),if_pos (zzb _),Nat.sub_zero,yj] at hx;cases hi':N[i]? with
 |none=>rw [hi'] at hx;cases hx
 |some o=>
  rw [hi'] at hx;simp only [Option.map_some,Option.join_some] at hx;cases hy:st.h.get o with
  |none=>rw [hy] at hx;cases hx
  |some y=>
   have:(g.cx N).inj i=g.inj o:=by simp [Gh.cx,hi']
   rw [this] at hj;exact hu o base (by rw [hy];rfl) hj
def av1:Ex->Code
 |.ret=>.ret
 |.exit id=>.exit id
 |.normal=>.skip
def Xn:Ex->Bool
 |.normal=>true
 |_=>false
structure Ad where
 fn:FuncId
 tmps:Array Value
 params:Array Tmp
 assign:Code
 body:Code
 defers:Nat
def Ad.at (r:Ad) (pe:Option Ex):Loop:={ state:=match pe with|none=>.ready|some _=>.done,pending:=pe.map av1,fn:=r.fn,tmps:=r.tmps,params:=r.params,assign:=r.assign,body:=r.body,defers:=r.defers }
def aFi (e:Ex):Option Ex:=
 match e with
 |.normal=>none
 |e=>some e
def Pm (B:dz) (nt:NT) (l:Nat) (rec:Ad) (Q:QI):Exit->Act->World->Prop:=fun ex a w=>
 ∃ e pe L st g,ex=wg e/\Q e pe L st/\mf B g st w/\kj g w nt L a.tmps/\a.defers=[]/\w.heap[l]? = some (.loop (rec.at pe))/\ja g st.h l
theorem Pm.mk' {B nt l rec} {Q:QI} {e pe L st g} {a:Act} {w:World} (hq:Q e pe L st) (hc:mf B g st w) (hr:kj g w nt L a.tmps) (hd:a.defers=[]) (hl:w.heap[l]? = some (.loop (rec.at pe))) (hu:ja g st.h l) :
 Pm B nt l rec Q (wg e) a w:=⟨e,pe,L,st,g,rfl,hq,hc,hr,hd,hl,hu⟩
def ahj (P:Program) (l:Nat) (rec:Ad) (R:My) (B1:dz):Prop:=
 ∀ (N p:Nat) (args:List AV) (X:Ex->St->Prop) (g:Gh) (st:St) (w:World) (vs:List Value),mf B1 g st w->B1.bg<=p->p<=st.nx->(∀ o,p<=o->g.inj o=none)->bz g w args vs ->
  w.heap[l]? = some (.loop (rec.at none))->ja g st.h l->R p args X st ->
  ∃ f tmps dX body,(Instr.yield l vs.toArray).run P w = .ok (.round l f tmps dX body) w/\RoundIn (fw none) N P l f tmps dX body w (fun e w'=>∃ ex st' g',X ex st'/\e = .returned (.bool (Xn ex))/\mf (lr g st.h w p (· = l)) g' st' w' /\
   w'.heap[l]? = some (.loop (rec.at (aFi ex)))/\ja g' st'.h l)
theorem anj {l:Nat} {a:AV} {g w v} (h:Fj l a=true) (hr:Rel g w a v):v = .func (.yield l) #[] #[]:=by
 unfold Fj at h
 split at h
 ·rename_i x
  split at h
  ·rename_i f va vb
   split at h
   ·rename_i k;simp only [zzh] at h;have:=hr.exact rfl;subst this;obtain ⟨⟨h1,h2⟩,h3⟩:=h;have h1:=zzg h1;have h2:va = #[]:=Array.eq_empty_of_size_eq_zero (zzg h2);have h3:vb = #[]:=Array.eq_empty_of_size_eq_zero (zzg h3);rw [h1,h2,h3]
   ·cases h
  ·cases h
 ·cases h
theorem azt {P:Program} [KP P] {o:Oper} {f:Operand} {args:Array Operand} {ts:Array TypeId} {ρ:Operand->Value} {l:Nat} (ho:o.op = .call { callee:=.value f,args,argTypes:=ts })
 (hf : ρ f = .func (.yield l) #[] #[]) (w:World):(execOp ρ o).run P w=(Instr.yield l (args.map ρ)).run P w:=by
 simp [execOp,ho,resolve,hf,Deferred.ofValue,invoke]
theorem aHb {P:Program} [KP P] {T:fp} (hT:ak P T) {ops:Array Oper} {N:Nat} {B:dz} {nt:NT} {l:Nat} {rec:Ad} {R:My} (aF:B.iw) (hp:B.bg<=1000) (hR:ahj P l rec R B) (hO:B.O l) {Q:Exit->Act->World->Prop} {K:Option Ex->SL->St->Prop} (hg:n5 nt ops=true) (hd:sj nt ops=true)
 (hK:∀ pe L st g w a,K pe L st->mf B g st w->kj g w nt L a.tmps->a.defers=[]->w.heap[l]? = some (.loop (rec.at pe))->ja g st.h l->Q .normal a w) :
 ∀ (ls:List Oper) (is:List Nat),(∀ o ∈ ls,o ∈ ops)->is.map (fun i=>ops[i]?)=ls.map some->∀ pe L st g w a,Kd P T l R B.bg ops ls K pe L st->mf B g st w->kj g w nt L a.tmps->a.defers=[] ->
  w.heap[l]? = some (.loop (rec.at pe))->ja g st.h l->wpOpsIn (fw none) N P ops Q is a w:=by
 intro ls
 induction ls with
 |nil=>
  intro is _ aK pe L st g w a h hc hr cH hl hu;cases is with
  |nil=>exact hK pe L st g w a h hc hr cH hl hu
  |cons i is=>cases aK
 |cons o ls ih=>
  intro is hmem aK pe L st g w a h hc hr cH hl hu;cases is with
  |nil=>cases aK
  |cons i is=>
   simp only [List.map_cons,List.cons.injEq] at aK;obtain ⟨hi,aK⟩:=aK;have ho:=hmem o (by simp);have eM:∀ o ∈ ls,o ∈ ops:=fun o ho=>hmem o (by simp [ho])
   simp only [wpOpsIn,hi];rcases zf hr (Be hg ho) h with ⟨hw,h1⟩|⟨hw,h1⟩
   ·rw [hw,if_pos rfl];unfold opI acm at h1;cases hy:yieldOf l o L with
    |none=>
     rw [hy] at h1;simp only at h1;unfold Nv at h1;cases hop:il P T o (eu L) st with
     |none=>rw [hop] at h1;exact h1.elim
     |some q=>
      obtain ⟨v,st'⟩:=q;rw [hop] at h1;refine Gg hT hc.ok (hc.free (aF.vw _ _)) hr.eval hop none N _ _ ?_;rintro u w' ⟨g',q1,q2,q3⟩;have gR:=ja.step q1 (cd hl) hu;exact ih is eM aK pe _ st' g' w' _ h1 (hc.step (aF.vw _ _) ⟨A2 hop,q1⟩ q2) ((hr.ext q1.ext).put q3 (nh hd ho)) (by rw [put_defers];exact cH) (gR.2.trans hl) gR.1
    |some args=>
     rw [hy] at h1;obtain ⟨rfl,keep,h1⟩:=h1;have aW:∃ f ts,o.op = .call { callee:=.value f,args,argTypes:=ts }/\Fj l (eu L f)=true:=by
      unfold yieldOf at hy
      split at hy
      ·rename_i f args' ts he;cases hb:Fj l (eu L f) with
       |false=>rw [hb] at hy;cases hy
       |true=>rw [hb] at hy;cases hy;exact ⟨f,ts,he,hb⟩
      ·cases hy
     obtain ⟨f,ts,he,hb⟩:=aW;have AD:=anj hb (hr.eval f);have cc:=Jh aF hp keep hc hr;have cn:=Wn hc keep L;have cu:=Ch (L:=L) hp keep hu;unfold E6 at h1;have aX:=cc.2.eval.list args.toList;obtain ⟨fn,tmps,dX,body,hrun,lJ⟩:=hR (N - 1) _ _ _ _ _ _ _ cc.1 cn.1 cn.2.1 cn.2.2 aX hl cu h1;refine ⟨ll none P o a w,?_⟩;rw [Oper.semAt_eq _ _ _ (Kr he),azt he AD,show args.map a.eval=(args.toList.map a.eval).toArray from (by apply Array.ext';simp),hrun];refine ⟨(fun h=>(by cases h)),lJ.mono ?_⟩;rintro e w' ⟨ex,st',g',hX,rfl,hc',hl',cI⟩;have aI:=hc'.base.akv (fun o h _=>cn.2.2 o h);have hcB:mf B g' st' w':=⟨hc'.ok,fun o h1 _=>hc'.fresh o h1 (fun h=>h),cc.1.base.comp hc'.base cn.1 (fun o h=>(aF o h).elim) (fun n hn=>by subst hn;exact .inr hO),zzu cn.1 hc'.bg⟩;have hr':=(cc.2.ext aI).put (.sc (.bool (Xn ex))) (nh hd ho);show wpOpsIn (fw none) N P ops Q is (a.put o.dst (.bool (Xn ex))) w';cases ex with
     |normal=>exact ih is eM aK _ _ st' g' w' _ hX hcB hr' (by rw [put_defers];exact cH) hl' cI
     |ret=>exact ih is eM aK _ _ st' g' w' _ hX hcB hr' (by rw [put_defers];exact cH) hl' cI
     |exit id=>exact ih is eM aK _ _ st' g' w' _ hX hcB hr' (by rw [put_defers];exact cH) hl' cI
   ·rw [hw,if_neg (by simp)];refine ⟨ll none P o a w,?_⟩;exact ih is eM aK pe _ st g w _ h1 hc (hr.put (.sc _) (nh hd ho)) (by rw [put_defers];exact cH) hl hu
theorem aH2 {P:Program} [KP P] {T:fp} (hT:ak P T) (hm:P.follows .mixedOrders=true) {N:Nat} {B:dz} {nt:NT} {l:Nat} {rec:Ad} {R:My} (aF:B.iw) (hp:B.bg<=1000) (hR:ahj P l rec R B) (hO:B.O l) :
 ∀ (c:Code),fq nt c=true->∀ (Q:QI) pe L st g w a,ui P T l R B.bg c Q pe L st->mf B g st w->kj g w nt L a.tmps->a.defers=[]->w.heap[l]? = some (.loop (rec.at pe))->ja g st.h l ->
  c.wpIn (fw none) N P (Pm B nt l rec Q) a w:=by
 intro c
 induction c with
 |skip=>intro _ Q pe L st g w a h hc hr hd hl hu;exact wpIn_skip (Pm.mk' (e:=.normal) h hc hr hd hl hu)
 |label k=>intro _ Q pe L st g w a h hc hr hd hl hu;exact wpIn_label (Pm.mk' (e:=.normal) h hc hr hd hl hu)
 |exit id=>intro _ Q pe L st g w a h hc hr hd hl hu;exact wpIn_exit (Pm.mk' (e:=.exit id) h hc hr hd hl hu)
 |ret=>intro _ Q pe L st g w a h hc hr hd hl hu;exact wpIn_ret (Pm.mk' (e:=.ret) h hc hr hd hl hu)
 |region id ops draw=>
  intro hs Q pe L st g w a h hc hr hd hl hu;simp only [fq,zzh] at hs;cases draw with
  |false=>exact wpIn_region (aHb hT aF hp hR hO hs.2 hs.1 (fun pe L st g w a h hc hr hd hl hu=>Pm.mk' (e:=.normal) h hc hr hd hl hu) ops.toList _ (by simp) (Lh ops) pe L st g w a h hc hr hd hl hu)
  |true=>
   have hc0:=hc.Vo B.bg (fun _=>False) hc.bg (far:=fun _=>False) (fun o h=>(aF o h).elim);refine aki hT.toF hm hs.2 hs.1 (fun _ _ _ _ _ _ h=>h) (fun L' st' g' w' a' h' hc' hr' _ hdd=>?_) h hc0 hr (by rw [hd];exact Marks.nil _ _ _ _);have gR:=hc'.base.Uj (cd hl) hu (fun h=>h);exact Pm.mk' (e:=.normal) h' ⟨hc'.ok,fun o h1 _=>hc'.fresh o h1 (fun h=>h),hc.base.comp hc'.base (zza _) (fun o h=>(aF o h).elim) (fun _ h=>h.elim),hc'.bg⟩ hr' (hdd.trans hd) (gR.2.trans hl) gR.1
 |seq x y lB lA=>
  intro hs Q pe L st g w a h hc hr hd hl hu;simp only [fq,zzh] at hs;refine wpIn_seq (wpIn_mono (lB hs.1 _ pe L st g w a h hc hr hd hl hu) ?_);rintro ex a' w' ⟨e,gV,L',st',g',rfl,hq,hc',hr',bP,hl',cI⟩;cases e with
  |normal=>exact lA hs.2 Q gV L' st' g' w' a' hq hc' hr' bP hl' cI
  |exit id=>exact ⟨.exit id,gV,L',st',g',rfl,hq,hc',hr',bP,hl',cI⟩
  |ret=>exact ⟨.ret,gV,L',st',g',rfl,hq,hc',hr',bP,hl',cI⟩
 |cond c x y lB lA=>
  intro hs Q pe L st g w a h hc hr hd hl hu;simp only [fq,zzh] at hs;obtain ⟨v,hv,h1,h2⟩:=Vj h;have hev:=Yx (hr.eval c) hv;cases v with
  |true=>exact wpIn_cond_true hev (lB hs.1 Q pe L st g w a (h1 rfl) hc hr hd hl hu)
  |false=>exact wpIn_cond_false hev (lA hs.2 Q pe L st g w a (h2 rfl) hc hr hd hl hu)
 |block id x ih=>
  intro hs Q pe L st g w a h hc hr hd hl hu;refine wpIn_block (wpIn_mono (ih hs _ pe L st g w a h hc hr hd hl hu) ?_);rintro ex a' w' ⟨e,gV,L',st',g',rfl,hq,hc',hr',bP,hl',cI⟩;cases e with
  |normal=>exact ⟨.normal,gV,L',st',g',rfl,hq,hc',hr',bP,hl',cI⟩
  |ret=>exact ⟨.ret,gV,L',st',g',rfl,hq,hc',hr',bP,hl',cI⟩
  |exit j=>
   simp only [Ww] at hq;by_cases e:j=id
   ·subst e;simp only [Nat.beq_refl,cond_true] at hq;simp only [wg,Exit.inBlock,if_true];exact ⟨.normal,gV,L',st',g',rfl,hq,hc',hr',bP,hl',cI⟩
   ·rw [uk e,cond_false] at hq;simp only [wg,Exit.inBlock,if_neg e];exact ⟨.exit j,gV,L',st',g',rfl,hq,hc',hr',bP,hl',cI⟩
 |loop x ih=>
  intro hs Q pe L st g w a h hc hr hd hl hu;obtain ⟨rfl,keep,h⟩:=h;refine D1 fun Y hY=>?_
  have hX:=h (fun vs os=>∀ g w a,mf B g (ay os) w->kj g w nt (fm keep vs) a.tmps->a.defers=[]->w.heap[l]? = some (.loop (rec.at none))->ja g (ay os).h l->Y a w) (fun vs os hb g w a hc hr hd hl hu=>by
   refine hY a w (wpIn_mono (ih hs _ _ _ _ g w a hb hc hr hd hl hu) ?_);rintro ex a' w' ⟨e,gV,L',st',g',rfl,hq,hc',hr',bP,hl',cI⟩;cases e with
   |normal=>
    obtain ⟨rfl,hq⟩:=hq;obtain ⟨vs',os',g1,hx,k1,k2,_,k4⟩:=I3 aF hp keep hq hc' hr';exact hx g1 w' a' k1 k2 bP hl' (k4 _ (Ch hp keep cI))
   |exit id=>exact ⟨.exit id,gV,L',st',g',rfl,hq,hc',hr',bP,hl',cI⟩
   |ret=>exact ⟨.ret,gV,L',st',g',rfl,hq,hc',hr',bP,hl',cI⟩)
  obtain ⟨vs',os',g1,hx,k1,k2,_,k4⟩:=I3 aF hp keep hX hc hr;exact hx g1 w a k1 k2 hd hl (k4 _ (Ch hp keep hu))
 |scope x ih=>intro _ Q pe L st g w a h;exact h.elim
 |rangeFunc f ps x y _ _=>intro _ Q pe L st g w a h;exact h.elim
 |goto k=>intro _ Q pe L st g w a h;exact h.elim
 |refuse why=>intro _ Q pe L st g w a h;exact h.elim
theorem anb:∀ (args:List AV) (i t:Nat),lk (cj i args) t=if i<=t then (args[t - i]?).getD .bad else .bad
 | [],i,t=>by simp [cj,lk]
 |a::r,i,t=>by
  rw [cj,pq,anb r (i+1) t];by_cases e:i=t
  ·subst e;simp
  ·rw [if_neg e];by_cases h:i+1<=t
   ·rw [if_pos h,if_pos zO,show t - i=(t - (i+1))+1 from by omega,List.getElem?_cons_succ]
   ·rw [if_neg h,if_neg zO]
theorem Ek {g w} {args:List AV} {vs:List Value} {nt:Nat} (h:bz g w args vs) (h1:args.length<=nt) :
 kj g w nt (cj 0 args) (vs.toArray++Array.replicate (nt - vs.toArray.size) undef):=by
 have hl:=h.1;refine ⟨⟨by simp;omega,fun p hp=>by cases hp⟩,fun t=>?_⟩;rw [anb,if_pos (zzb _),Nat.sub_zero];cases ha:args[t]? with
 |none=>exact .bad _
 |some a=>
  obtain ⟨v,hv,hr⟩:=h.get ha;have ht:=(zg.1 hv).1;rw [zze,Array.getElem?_append_left (by simp;omega)];simp only [List.getElem?_toArray,hv];exact hr
theorem V7 {g w} {nt:NT}:∀ (ps:List Tmp) (args:List AV) (vs:List Value) (L:SL) (tmps:Array Value),ps.all (fun t=>nt.has t)=true->args.length=ps.length->bz g w args vs->kj g w nt L tmps ->
 kj g w nt (F8 ps args L) ((ps.zip vs).foldl (fun t (p,v)=>t.setIfInBounds p v) tmps)
 | [],args,vs,L,tmps,_,hl,hr,h=>by
  cases args with
  |nil=>simpa [F8] using h
  |cons a r=>simp at hl
 |t::ps,args,vs,L,tmps,nA,hl,hr,h=>by
  cases args with
  |nil=>simp at hl
  |cons a args=>
   match vs,hr with
   | [],hr=>have:=hr.1;simp at this
   |v::vs,hr=>
    simp only [List.all_cons,zzh] at nA;have ht:=NT.Jm nA.1;refine V7 ps args vs ((t,a)::L) (tmps.setIfInBounds t v) nA.2 (by simpa using hl) hr.tail ⟨h.1.set nA.1,fun u=>?_⟩;rw [pq,zze,zzz];by_cases e:t=u
    ·subst e;rw [if_pos rfl,if_pos rfl,if_pos (by rw [h.1.size];exact ht.1)];exact hr.head
    ·rw [if_neg e,if_neg e,<- zze];exact h.2 u
theorem aCy {P:Program} [KP P] {T:fp} (hT:ak P T) (hm:P.follows .mixedOrders=true) {B1:dz} {l:Nat} {nt:NT} {rec:Ad} {L0:SL} (aF:B1.iw) (nA:rec.params.toList.all (fun t=>nt.has t)=true)
 (hs1:fq nt rec.assign=true) (hs2:fq nt rec.body=true) (eU:rec.assign.x7=true) (oX:rec.body.x7=true) (BL:∀ g h w,ub B1 g h w->kj g w nt L0 rec.tmps) :
 ahj P l rec (sm rec.params.toList (fun p=>wl P T p rec.assign) (fun p=>wl P T p rec.body) L0) B1:=by
 intro N p args X g st w vs hc nB cL aN aX hl hu hR;obtain ⟨hlen,dP,hA⟩:=hR;have hlen:=zzg hlen;have dP:=zB dP;have yK:vs.length=args.length:=aX.1;have hsz:args.length=rec.params.size:=hlen.trans (zya ..);have hy:=run_yield (P:=P) (args:=vs.toArray) hl (by show vs.toArray.size=rec.params.size;rw [List.size_toArray,yK,hsz]);refine ⟨_,_,_,_,hy,roundIn_of_wpIn trivial ?_⟩;have hB2:=hc.Vo p (fun _=>False) cL (far:=fun _=>False) (fun o h=>(aF o h).elim);have hrel:=V7 rec.params.toList args vs L0 rec.tmps nA hlen aX (BL _ _ _ hc.base);have gA:(((rec.at none).params.zip vs.toArray).foldl (fun tmps (x:Tmp × Value)=>tmps.setIfInBounds x.1 x.2) (rec.at none).tmps)=((rec.params.toList.zip vs).foldl (fun t (x:Tmp × Value)=>t.setIfInBounds x.1 x.2) rec.tmps):=by rw [<- Array.foldl_toList];simp [Ad.at]
 have h1:=ank hT hm (ro:=some l) (N:=N) (B:=lr g st.h w p (fun _=>False)) (nt:=nt) (fun _ h=>h) dP rec.assign hs1 eU _ _ st g w { tmps:=((rec.at none).params.zip vs.toArray).foldl (fun tmps (x:Tmp × Value)=>tmps.setIfInBounds x.1 x.2) (rec.at none).tmps,defers:=[] } hA hB2
  (by show kj g w nt _ (((rec.at none).params.zip vs.toArray).foldl (fun tmps (x:Tmp × Value)=>tmps.setIfInBounds x.1 x.2) (rec.at none).tmps);rw [gA];exact hrel) (Marks.nil _ _ _ _)
 refine wpIn_mono h1 ?_;rintro ex a1 w1 ⟨e,L1,fg,g1,rfl,hq,hc1,hr1,aH⟩;cases e with
 |exit id=>exact hq.elim
 |ret=>exact hq.elim
 |normal=>
  have gR:=hc1.base.Uj (cd hl) hu (fun h=>h);have bY:=gR.2.trans hl;refine ⟨_,run_beginRound bY rfl,?_⟩;have hw1:mf (lr g st.h w p (· = l)) g1 fg w1:=⟨hc1.ok,hc1.fresh,hc1.base.aJ7 (fun _ h=>h.elim),hc1.bg⟩;have lS:=Cp (r':={ rec.at none with state:=.busy }) hw1 bY gR.1 (.inl rfl);have BQ:=lS.1.Vo p (fun _=>False) hc1.bg (far:=fun _=>False) (fun _ h=>h);have h2:=ank hT hm (ro:=some l) (N:=N) (B:=lr g1 fg.h (j6 w1 l (.loop { rec.at none with state:=.busy })) p (fun _=>False)) (nt:=nt) (fun _ h=>h) dP rec.body hs2 oX _ _ fg g1 _ a1 hq BQ (hr1.ext lS.2) (aH.Cp bY);refine wpIn_mono h2 ?_;rintro ex a3 w3 ⟨e,L3,nU,g3,rfl,oV,hc3,hr3,wI⟩;have hl2:(j6 w1 l (.loop { rec.at none with state:=.busy })).heap[l]? = some (.loop { rec.at none with state:=.busy }):=kc _ (cd bY);have eZ:=hc3.base.Uj (cd hl2) gR.1 (fun h=>h);have hl3:=eZ.2.trans hl2;have mO:mf (lr g st.h w p (· = l)) g3 nU w3:=⟨hc3.ok,hc3.fresh,lS.1.base.comp hc3.base (zza _) (fun _ h=>h) (fun _ h=>h.elim),hc3.bg⟩;cases e with
  |normal=>
   refine ⟨_,_,run_endRound none hl3,.normal,nU,g3,oV,rfl,(Cp (r':=rec.at none) mO hl3 eZ.1 (.inl rfl)).1,kc _ (cd hl3),eZ.1⟩
  |ret=>
   refine ⟨_,_,run_endRound (some .ret) hl3,.ret,nU,g3,oV,rfl,(Cp (r':=rec.at (some .ret)) mO hl3 eZ.1 (.inl rfl)).1,kc _ (cd hl3),eZ.1⟩
  |exit id=>
   refine ⟨_,_,run_endRound (some (.exit id)) hl3,.exit id,nU,g3,oV,rfl,(Cp (r':=rec.at (some (.exit id))) mO hl3 eZ.1 (.inl rfl)).1,kc _ (cd hl3),eZ.1⟩
theorem aoo {g w a v f bW} (h:Nt a=some (f,bW)) (hr:Rel g w a v):∃ vb:Array Value,v = .func (.func f) #[] vb/\bz g w bW vb.toList:=by
 unfold Nt at h
 split at h
 ·rename_i fx first captured
  split at h
  ·rename_i k;cases h;cases hr with
   |fn _ _ _ va vb hs hh hs' bH=>
    have:va = #[]:=Array.eq_empty_of_size_eq_zero (by simpa using hs);subst this;exact ⟨vb,rfl,⟨by simpa using hs',fun i x y hx hy=>bH i x y hx (by simpa using hy)⟩⟩
  ·cases h
 ·rename_i x
  split at h
  ·rename_i fx first captured
   split at h
   ·rename_i k hf;cases h;have:=hr.exact rfl;subst this;have:first = #[]:=by apply Array.ext';simpa using hf
    subst this;exact ⟨captured,rfl,bz.Ke g w _⟩
   ·cases h
  ·cases h
 ·cases h
theorem auu {P:Program} [KP P] {f nt:Nat} {code:Code} (h:Gs P f=some (nt,code)) :
 ∃ fn,P.funcs[f]? = some fn/\fn.body=some code/\qk P f=true/\fq fn.ntmps code=true/\fn.results = #[]/\nt=fn.ntmps:=by
 unfold Gs at h
 split at h
 ·rename_i fn hf
  split at h
  ·rename_i body hb;cases hc:(qk P f && fq fn.ntmps body && fn.results.isEmpty) with
   |false=>rw [hc] at h;cases h
   |true=>
    rw [hc] at h;cases h;simp only [zzh] at hc;exact ⟨fn,hf,hb,hc.1.1,hc.1.2,Array.isEmpty_iff.1 hc.2,rfl⟩
  ·cases h
 ·cases h
theorem aDp {P:Program} [KP P] {T:fp} (hT:ak P T) (hm:P.follows .mixedOrders=true) {N:Nat} {B:dz} {nt:NT} (aF:B.iw) (hp:B.bg<=1000) (aL:B.n0<=B.w.heap.size) (f:Operand) (ps:Array Tmp) (dX body:Code) (hs:fq nt (.rangeFunc f ps dX body)=true) :
 Wu P none N B nt (.rangeFunc f ps dX body) (wl P T B.bg (.rangeFunc f ps dX body)):=by
 intro Q L st g w a h hc hr hd;simp only [fq,zzh] at hs;obtain ⟨⟨⟨⟨hs1,hs2⟩,hs3⟩,yR⟩,hs5⟩:=hs;obtain ⟨keep,eU,h⟩:=h;have eU:=zB eU;have cc:=Jh aF hp keep hc hr;have cn:=Wn hc keep L;have cm:=Ag (L:=L) hp keep hd;generalize gk B.bg keep L st=os at eU h cc cn cm;generalize dq B.bg keep L st=vs at h cc;generalize g.cx (jx B.bg keep L st)=g2 at cc cn cm;obtain ⟨hc2,hr2⟩:=cc;obtain ⟨cL,aN,wC⟩:=cn;generalize fm keep vs=L0 at h hr2;unfold Rk at h;cases hfn:Nt (eu L0 f) with
 |none=>rw [hfn] at h;exact h.elim
 |some q=>
 obtain ⟨gf,bW⟩:=q;rw [hfn] at h;simp only at h;unfold S3 at h;cases hib:Gs P gf with
 |none=>rw [hib] at h;exact h.elim
 |some q=>
 obtain ⟨qX,code⟩:=q;rw [hib] at h;obtain ⟨hle,h⟩:=h;have hle:=zB hle;obtain ⟨fn,AL,hf2,hf3,AK,AH,rfl⟩:=auu hib;obtain ⟨vb,hev,kS⟩:=aoo hfn (hr2.eval f);refine wpIn_rangeFunc fun CE AE=>?_
 obtain ⟨rec,eG⟩:∃ rec:Ad,rec = { fn:=CE,tmps:=a.tmps,params:=ps,assign:=dX,body:=body,defers:=w.heap.size }:=⟨_,rfl⟩;obtain ⟨W1,hW1⟩:∃ W1,(w.alloc (.deferred (some []))).alloc (.loop (rec.at none))=W1:=⟨_,rfl⟩;have hsz:W1.heap.size=w.heap.size+2:=by rw [<- hW1];simp
 have hold:∀ b,b<w.heap.size->W1.heap[b]? = w.heap[b]? := fun b hb=>by rw [<- hW1,RowKit.Below.heap_alloc _ _ _ (by simp;omega)];exact RowKit.Below.heap_alloc w _ _ hb
 have jJ:W1.heap[w.heap.size+1]? = some (.loop (rec.at none)):=by rw [<- hW1];have:=World.alloc_heap_new (w.alloc (.deferred (some []))) (.loop (rec.at none));rwa [World.size_alloc] at this
 have BP:W1.heap[w.heap.size]? = some (.deferred (some [])):=by rw [<- hW1];exact (RowKit.Below.heap_alloc _ _ _ (by simp)).trans (World.alloc_heap_new w _)
 have hgrow:=azh (w':=W1) (ay os).nx (ay os).nx hc2.ok zO hold (by rw [<- hW1];rfl) (by rw [<- hW1];rfl) (by rw [<- hW1];rfl);have wK:mf B g2 (ay os) W1:=hc2.step (aF.vw _ _) ⟨zza _,hgrow.1⟩ hgrow.2;have vW:=hr2.ext hgrow.1.ext;have zJ:=cm.step hgrow.1;have kI:∀ b,w.heap.size<=b->ja g2 (ay os).h b:=fun b hb o base ho hi=>by obtain ⟨x,hx⟩:=zzv.1 ho;obtain ⟨c,base',q1,_,q3⟩:=hc2.ok.obj o x hx;rw [hi] at q1;cases q1;have:=q3.lt;omega
 have hB1:=wK.Vo os.length (· = w.heap.size+1) aN (far:=fun _=>False) (fun o h=>(aF o h).elim);have hlen:(#[Value.func (.yield (w.heap.size+1)) #[] #[]]++vb).size<=fn.ntmps:=by have:=kS.1;simp at this ⊢;omega
 refine ⟨w.heap.size+1,[mark w.heap.size],W1,{ target:=.fn (.func gf) vb,args:=#[.func (.yield (w.heap.size+1)) #[] #[]] },W1,gf,#[.func (.yield (w.heap.size+1)) #[] #[]]++vb,W1,?_,?_,fun _ _=>trivial,?_,(fun h=>(by cases h)),?_⟩
 ·rw [<- hW1,eG];exact run_enterLoop_outer _ _ _ _ _
 ·simp only [resolve,hev];simp [go_sem]
 ·simp [invoke,go_sem,ur hf3]
 ·refine callsIn_of_wp_marks AL hf2 trivial ?_;have hR:=aCy hT hm (B1:=lr g2 (ay os).h W1 os.length (· = w.heap.size+1)) (l:=w.heap.size+1) (nt:=nt) (rec:=rec) (L0:=L0) (fun _ h=>h) (by rw [eG];simpa [Array.all_toList] using hs1) (by rw [eG];exact hs2) (by rw [eG];exact hs3) (by rw [eG];exact yR) (by rw [eG];exact hs5)
   (fun g' h' w' hb=>by rw [eG];exact vW.ext (hb.akv (fun o h _=>wC o h)))
  have BG:ahj P (w.heap.size+1) rec (sm ps.toList (fun p=>wl P T p dX) (fun p=>wl P T p body) L0) (lr g2 (ay os).h W1 os.length (· = w.heap.size+1)):=by rw [eG] at hR ⊢;exact hR
  have hrel:kj g2 W1 fn.ntmps (cj 0 (.sc (.func (.yield (w.heap.size+1)) #[] #[])::bW)) ((#[Value.func (.yield (w.heap.size+1)) #[] #[]]++vb)++Array.replicate (fn.ntmps - (#[Value.func (.yield (w.heap.size+1)) #[] #[]]++vb).size) undef):=by
   have hrl:bz g2 W1 (.sc (.func (.yield (w.heap.size+1)) #[] #[])::bW) (.func (.yield (w.heap.size+1)) #[] #[]::vb.toList):=bz.cons (.sc _) (kS.ext hgrow.1.ext);have:=Ek (nt:=fn.ntmps) hrl (by simpa using hle);have e:(Value.func (.yield (w.heap.size+1)) #[] #[]::vb.toList).toArray = #[Value.func (.yield (w.heap.size+1)) #[] #[]]++vb:=by apply Array.ext';simp
   rw [e] at this;exact this
  have hw:=aH2 hT hm (N:=N - 1) (B:=lr g2 (ay os).h W1 os.length (· = w.heap.size+1)) (fun _ h=>h) eU BG (.inl rfl) code AK _ none _ (ay os) g2 W1 { tmps:=(#[Value.func (.yield (w.heap.size+1)) #[] #[]]++vb)++Array.replicate (fn.ntmps - (#[Value.func (.yield (w.heap.size+1)) #[] #[]]++vb).size) undef,defers:=[] } (h _) hB1 hrel rfl jJ (kI _ zO);refine wpIn_mono hw ?_;rintro ex a' w' ⟨e,pe,L',st',g',rfl,hq,hc',hr',bP,hl',cI⟩;have fin:amf Q L0 .normal pe L' st'->bodyPostM (fw none) (N - 1) P fn (rangePost (fw none) N P (w.heap.size+1) (Fin B nt Q) { a with defers:=[mark w.heap.size]++a.defers }) .ret a' w':=by
   intro hq;show LeavesInM (fw none) (N - 1) P fn a'.tmps _ a'.defers .returning w';rw [bP];have hres:(results fn a'.tmps).run P w' = .ok (.tuple #[]) w':=by simp [results,AH]
   refine ⟨_,hres,?_⟩;have hend:=run_endLoop (P:=P) hl' (by cases pe<;>simp [Ad.at]);refine ⟨_,_,hend,?_⟩;have hput:=Cp (r':={ rec.at pe with state:=.exhausted }) hc' hl' cI (.inl rfl);have hb:=hput.1.base;have hcB:mf B g' st' (j6 w' (w.heap.size+1) (.loop { rec.at pe with state:=.exhausted })):=⟨hput.1.ok,fun o h1 _=>hput.1.fresh o h1 (fun h=>h),wK.base.comp hb cL (fun o h=>(aF o h).elim) (fun n hn=>by subst hn;have:=hc.base.size;exact .inl zO),zzu cL hput.1.bg⟩;have rD:=vW.ext (hb.akv (fun o h _=>wC o h));have rI:Marks B.D B.n0 st'.h g' (j6 w' (w.heap.size+1) (.loop { rec.at pe with state:=.exhausted })) ([mark w.heap.size]++a.defers):=by
    have lZ:Marks B.D B.n0 (ay os).h g2 W1 ([mark w.heap.size]++a.defers):=by
     obtain ⟨bs,e1,e2,e3⟩:=zJ;obtain ⟨xD,jB,EF,CM⟩:=cm;have bI:bs=xD:=by have:bs.map mark=xD.map mark:=List.append_cancel_right (e1.symm.trans jB);exact (List.map_inj_right (fun x y e=>by simpa [mark] using e)).1 this
     subst bI;refine ⟨w.heap.size::bs,by simp [e1],List.nodup_cons.2 ⟨fun hmem=>?_,e2⟩,fun b hb=>?_⟩
     ·have:=cd (CM _ hmem).2.1;omega
     ·rcases zyb.1 hb with rfl|hb
      ·have:=hc.base.size;exact ⟨zO,BP,kI _ (zza _)⟩
      ·exact e3 b hb
    exact Marks.base hb lZ (fun b hbl=>by subst hbl;exact ⟨_,jJ⟩)
   cases pe with
   |none=>exact Fin.mk' (e:=.normal) hq hcB rD rI
   |some e=>
    show (av1 e).wpIn (fw none) N P (Fin B nt Q) _ _;cases e with
    |normal=>exact wpIn_skip (Fin.mk' (e:=.normal) hq hcB rD rI)
    |ret=>exact wpIn_ret (Fin.mk' (e:=.ret) hq hcB rD rI)
    |exit id=>exact wpIn_exit (Fin.mk' (e:=.exit id) hq hcB rD rI)
  cases e with
  |normal=>exact fin hq
  |ret=>exact fin hq
  |exit id=>exact hq.elim
theorem ato {P:Program} [KP P] {T:fp} (hT:ak P T) (hm:P.follows .mixedOrders=true) {N:Nat} {B:dz} {nt:NT} (aF:B.iw) (hp:B.bg<=1000) (aL:B.n0<=B.w.heap.size) (c:Code) (hs:fq nt c=true):Wu P none N B nt c (wl P T B.bg c):=
 ayy hT hm aF hp true (fun _ f ps dX body h=>aDp hT hm aF hp aL f ps dX body h) c hs (.inl rfl)
theorem G4 {P:Program} [KP P] {F:Fence} {n:Nat} {fn:Func} {tmps:Array Value} {R:Ending->World->Prop} (Good:World->Prop) (S:Nat->Prop) (hput:∀ w b,Good w->S b->w.heap[b]? = some (.deferred (some []))->Good (j6 w b (.deferred none)))
 (hres:∀ w,Good w->∃ v,(results fn tmps).run P w = .ok v w/\R (.returned v) w) :
 ∀ (bs:List Nat) (w:World),Good w->bs.Nodup->(∀ b ∈ bs,S b/\w.heap[b]? = some (.deferred (some [])))->LeavesInM F n P fn tmps R (bs.map mark) .returning w:=by
 intro bs
 induction bs with
 |nil=>intro w hg _ _;exact hres w hg
 |cons b bs ih=>
  intro w hg cR hall;obtain ⟨q1,q2⟩:=hall b (by simp);rw [List.nodup_cons] at cR;refine ⟨by simp,.inl ⟨b,j6 w b (.deferred none),rfl,?_,?_⟩⟩
  ·simp [Instr.takeDeferred,Sem.run_bind,getObj,setObj,Sem.run,q2,Result.andThen,j6]
  ·refine ih _ (hput w b hg q1 q2) cR.2 (fun c hc=>?_);obtain ⟨p1,p2⟩:=hall c (by simp [hc]);exact ⟨p1,(gm w _ (fun e=>cR.1 (by rw [<- e];exact hc))).trans p2⟩
end
variable [TK]
def gK (b0:Nat) (K:Nat->Nat->Prop):Gh:={ b0,inj:=fun _=>none,K }
structure Au (g:Gh) (h:Tr bk) (K':Nat->Nat->Prop):Prop where
 K:∀ b j,g.K b j->K' b j
 rows:∀ o cells k s e,h.get o=some (.row cells k s e)->∀ b base,g.inj o=some (b,base)->∀ j,s=0\/j<cells.length->K' b (base+j)
theorem Au.nil (g:Gh) (K:Nat->Nat->Prop) (h:∀ b j,g.K b j->K b j):Au g .nil K:=⟨h,fun o cells k s e ho=>by rw [Tr.get_nil] at ho;cases ho⟩
structure Plain (c:AV):Prop where
 cx:∀ τ,c.cx τ=c
 names:c.names=[]
 one:c.one=true
 known:c.known=true
structure er (α:Type) where
 sz:Nat
 agg:Bool
 cells:Bool -> α->List AV
 dec:Bool->Tr bk->List AV->Option α
 len:∀ l x,(cells l x).length=sz
 rt:∀ fr h l x,(fr=true->l=true)->dec fr h (cells l x)=some x
 one:agg=false->∀ l x,∃ c,cells l x=[c]/\c.cells=[c]/\c.known=true
 pl:∀ l x,∀ c ∈ cells l x,Plain c
 fr:∀ x,∀ c ∈ cells true x,c.fresh=true
 kd:LK
 Ph:sz=1->∀ {g w l x c v},c ∈ cells l x->Rel g w c v->qy v=kd
 ok:∀ {fr g h w K b0 l vs x},Ok g h w->Au g h K->(fr=true->b0<=g.b0)->bz g w l vs->dec fr h l=some x->bz (gK b0 K) w (cells fr x) vs
def er.val {α:Type} (C:er α) (l:Bool) (x : α):AV:=bif C.agg then .agg (C.cells l x) else (C.cells l x).headD .bad
def AV.isAgg:AV->Bool
 |.agg _=>true
 |.sc v=>match v with|.agg _=>true|_=>false
 |_=>false
noncomputable def er.j9 {α:Type} (C:er α) (fr:Bool) (h:Tr bk) (a:AV):Option α:=bif a.known && (a.isAgg == C.agg) then C.dec fr h a.cells else none
theorem er.Dl {α:Type} (C:er α) (l:Bool) (x : α):(C.val l x).cells=C.cells l x:=by
 unfold er.val;cases h:C.agg with
 |true=>rfl
 |false=>
  obtain ⟨c,h1,h2,_⟩:=C.one h l x;rw [cond_false,h1];exact h2
theorem Yd {c:AV} (h:c.cells=[c]):c.isAgg=false:=by
 cases c with
 |agg l=>
  simp only [AV.cells] at h;have:=congrArg (SizeOf.sizeOf:List AV->Nat) h;simp at this;omega
 |sc v=>
  cases v with
  |agg vs=>
   obtain ⟨l⟩:=vs;simp only [AV.cells,Value.cells] at h
   match l,h with
   | [x],h=>
    simp only [List.map_cons,List.map_nil,List.cons.injEq,and_true,AV.sc.injEq] at h;have:=congrArg (SizeOf.sizeOf:Value->Nat) h;simp at this;omega
   | [],h=>simp at h
   |_::_::_,h=>simp at h
  |_=>rfl
 |_=>rfl
theorem aAe {α:Type} (C:er α) (l:Bool) (x : α):(C.val l x).isAgg=C.agg:=by
 unfold er.val;cases h:C.agg with
 |true=>rfl
 |false=>
  obtain ⟨c,h1,h2,_⟩:=C.one h l x;rw [cond_false,h1];exact Yd h2
theorem bz.split {g w l l' vs} (h:bz g w (l++l') vs):∃ u u',vs=u++u'/\bz g w l u/\bz g w l' u':=by have h1:=h.take l.length;have h2:=h.drop l.length;rw [List.take_left] at h1;rw [List.drop_left] at h2;exact ⟨_,_,(zzm l.length vs).symm,h1,h2⟩
theorem Q0 {α:Type} (C:er α) (l:Bool) (x : α):(C.val l x).known=true:=by
 unfold er.val;cases h:C.agg with
 |true=>rfl
 |false=>
  obtain ⟨c,h1,_,h2⟩:=C.one h l x;rw [cond_false,h1];exact h2
theorem er.Pz {α:Type} (C:er α) (fr:Bool) (h:Tr bk) (l:Bool) (x : α) (hl:fr=true->l=true):C.j9 fr h (C.val l x)=some x:=by unfold er.j9;rw [Q0,aAe,C.Dl,C.rt _ _ _ _ hl];simp
theorem aiq {α:Type} (C:er α) {fr:Bool} {h:Tr bk} {a:AV} {x : α} (hd:C.j9 fr h a=some x):a.known=true/\a.isAgg=C.agg/\C.dec fr h a.cells=some x:=by
 unfold er.j9 at hd;cases hk:(a.known && (a.isAgg == C.agg)) with
 |false=>rw [hk] at hd;cases hd
 |true=>rw [hk] at hd;simp at hk;exact ⟨hk.1,hk.2,hd⟩
theorem er.okV {α:Type} (C:er α) {fr g h w K b0 a v x} (aB:Ok g h w) (hl:Au g h K) (hb:fr=true->b0<=g.b0) (hr:Rel g w a v) (hd:C.j9 fr h a=some x):Rel (gK b0 K) w (C.val fr x) v:=by
 obtain ⟨h1,h2,h3⟩:=aiq C hd;have hc:=hr.cells h1;have hx:=C.ok (b0:=b0) aB hl hb hc h3;unfold er.val;cases hg:C.agg with
 |true=>
  rw [hg] at h2;have:∃ vs,v = .agg vs:=by
   cases hr with
   |agg l vs=>exact ⟨vs,rfl⟩
   |sc v=>cases v<;>first|exact ⟨_,rfl⟩|cases h2
   |_=>cases h2
  obtain ⟨vs,rfl⟩:=this;exact .agg _ vs (by simpa [Value.cells] using hx.1) (fun i a v ha hv=>hx.2 i a v ha (by simpa [Value.cells] using hv))
 |false=>
  obtain ⟨c,h4,_⟩:=C.one hg fr x;rw [cond_false,h4];rw [h4] at hx;have hv:v.cells.toList=[v]:=by
   rw [hg] at h2;have h5:=hx.1;cases hr with
   |agg=>cases h2
   |sc v=>cases v<;>first|rfl|cases h2
   |bad=>cases h1
   |_=>rfl
  rw [hv] at hx;exact hx.head
theorem Mp {l:List AV} (h:∀ c ∈ l,c.names=[]):AV.names.go l=[]:=by
 induction l with
 |nil=>rfl
 |cons a l ih=>simp [AV.names.go,h a (by simp),ih (fun c hc=>h c (by simp [hc]))]
theorem Du {l:List AV} (h:∀ c ∈ l,c.fresh=true):AV.fresh.go l=true:=by
 induction l with
 |nil=>rfl
 |cons a l ih=>simp [AV.fresh.go,h a (by simp),ih (fun c hc=>h c (by simp [hc]))]
theorem W2 {τ:Nat->Option Nat} {l:List AV} (h:∀ c ∈ l,c.cx τ=c):AV.cx.go τ l=l:=by
 induction l with
 |nil=>rfl
 |cons a l ih=>simp [AV.cx.go,h a (by simp),ih (fun c hc=>h c (by simp [hc]))]
theorem Sa {α:Type} (C:er α) (l:Bool) (x : α):(C.agg=true/\C.val l x = .agg (C.cells l x))\/(C.agg=false/\C.val l x ∈ C.cells l x):=by
 cases h:C.agg with
 |true=>exact .inl ⟨rfl,by simp [er.val,h]⟩
 |false=>
  obtain ⟨c,h1,_⟩:=C.one h l x;refine .inr ⟨rfl,?_⟩;simp [er.val,h,h1]
theorem I0 {α:Type} (C:er α) (τ:Nat->Option Nat) (l:Bool) (x : α):(C.val l x).cx τ=C.val l x:=by
 rcases Sa C l x with ⟨_,h⟩|⟨_,h⟩
 ·rw [h,AV.cx,W2 (fun c hc=>(C.pl l x c hc).cx τ)]
 ·exact (C.pl l x _ h).cx τ
theorem Sg {α:Type} (C:er α) (l:Bool) (x : α):(C.val l x).names=[]:=by
 rcases Sa C l x with ⟨_,h⟩|⟨_,h⟩
 ·rw [h,AV.names];exact Mp (fun c hc=>(C.pl l x c hc).names)
 ·exact (C.pl l x _ h).names
theorem Sq {α:Type} (C:er α) (x : α):(C.val true x).fresh=true:=by
 rcases Sa C true x with ⟨_,h⟩|⟨_,h⟩
 ·rw [h,AV.fresh];exact Du (fun c hc=>C.fr x c hc)
 ·exact C.fr x _ h
theorem azz {α:Type} (C:er α) (l:Bool) (x : α):(C.cells l x).all AV.one=true:=by rw [zz9];exact fun c hc=>(C.pl l x c hc).one
noncomputable def Eo {α:Type} (C:er α) (fr:Bool) (h:Tr bk):List AV->Option (List α)
 | []=>some []
 |a::r=>match C.j9 fr h a,Eo C fr h r with
  |some x,some xs=>some (x::xs)
  |_,_=>none
noncomputable def B3 {α:Type} (C:er α) (fr:Bool) (h:Tr bk):Nat->List AV->Option (List α)
 |0,_=>some []
 |n+1,l=>match C.dec fr h (l.take C.sz),B3 C fr h n (l.drop C.sz) with
  |some x,some xs=>some (x::xs)
  |_,_=>none
theorem aac {α:Type} (C:er α) (fr:Bool) (h:Tr bk) (l:Bool) (hl:fr=true->l=true):∀ xs:List α,Eo C fr h (xs.map (C.val l))=some xs
 | []=>rfl
 |x::xs=>by simp only [List.map_cons,Eo,C.Pz fr h l x hl,aac C fr h l hl xs]
theorem af4 {α:Type} (C:er α) (fr:Bool) (h:Tr bk) (l:Bool) (hl:fr=true->l=true):∀ xs:List α,B3 C fr h xs.length (xs.flatMap (C.cells l))=some xs
 | []=>rfl
 |x::xs=>by
  have h1:(C.cells l x++xs.flatMap (C.cells l)).take C.sz=C.cells l x:=by rw [<- C.len l x,List.take_left]
  have h2:(C.cells l x++xs.flatMap (C.cells l)).drop C.sz=xs.flatMap (C.cells l):=by rw [<- C.len l x,List.drop_left]
  simp only [List.flatMap_cons,List.length_cons,B3,h1,h2,C.rt fr h l x hl,af4 C fr h l hl xs]
theorem aAa {α:Type} (C:er α) {fr g h w K b0} (aB:Ok g h w) (hl:Au g h K) (hb:fr=true->b0<=g.b0):∀ (es:List AV) (vs:List Value) (xs:List α),bz g w (es.flatMap AV.cells) vs->Eo C fr h es=some xs ->
 bz (gK b0 K) w (xs.flatMap (C.cells fr)) vs/\xs.length=es.length:=by
 intro es
 induction es with
 |nil=>intro vs xs hr hd;simp [Eo] at hd;subst hd;exact ⟨⟨by simpa using hr.1,fun i a v ha=>by simp at ha⟩,rfl⟩
 |cons e es ih=>
  intro vs xs hr hd;rw [List.flatMap_cons] at hr;obtain ⟨u,u',rfl,h1,h2⟩:=hr.split;simp only [Eo] at hd
  split at hd
  ·rename_i x xs' hx dO;simp at hd;subst hd;obtain ⟨q1,q2⟩:=ih u' xs' h2 dO;exact ⟨by rw [List.flatMap_cons];exact (C.ok aB hl hb h1 (aiq C hx).2.2).append q1,by simp [q2]⟩
  ·cases hd
theorem aGc {α:Type} (C:er α) {fr g h w K b0} (aB:Ok g h w) (hl:Au g h K) (hb:fr=true->b0<=g.b0):∀ (n:Nat) (l:List AV) (vs:List Value) (xs:List α),bz g w l vs->l.length=n * C.sz->B3 C fr h n l=some xs ->
 bz (gK b0 K) w (xs.flatMap (C.cells fr)) vs/\xs.length=n:=by
 intro n
 induction n with
 |zero=>
  intro l vs xs hr hlen hd;simp [B3] at hd;subst hd;have:l=[]:=by apply zzf;omega
  subst this;exact ⟨⟨by simpa using hr.1,fun i a v ha=>by simp at ha⟩,rfl⟩
 |succ n ih=>
  intro l vs xs hr hlen hd;simp only [B3] at hd
  split at hd
  ·rename_i x xs' hx dO;simp at hd;subst hd;have h1:=hr.take C.sz;have h2:=hr.drop C.sz;obtain ⟨q1,q2⟩:=ih _ _ xs' h2 (by rw [zzt,hlen,Nat.succ_mul];omega) dO;refine ⟨?_,by simp [q2]⟩;have:=(C.ok aB hl hb h1 hx).append q1;rw [List.flatMap_cons,<- zzm C.sz vs];exact this
  ·cases hd
def Ro (sz:Nat) (kd:LK) (et:TypeId):Bool:=(match TK.sz et with|some n=>Nat.beq n sz|none=>false) && (!Nat.beq sz 1 || decide (TK.kd et=kd))
theorem aJb {sz:Nat} {kd:LK} {et:TypeId} (h:Ro sz kd et=true):TK.sz et=some sz/\(sz=1->TK.kd et=kd):=by
 unfold Ro at h;rw [zzh] at h;obtain ⟨h1,h2⟩:=h;constructor
 ·cases hs:TK.sz et with
  |none=>rw [hs] at h1;cases h1
  |some n=>rw [hs] at h1;rw [zzg h1]
 ·intro e;subst e;simpa using h2
def Ck (fr:Bool) (sz:Nat) (kd:LK) (st off len n:Nat) (et:TypeId):Bool:=!fr || (Nat.beq st 0 && (Nat.beq off 0 && Nat.beq (n * sz) len) && Ro sz kd et)
theorem aBf {sz:Nat} {kd:LK} {st off len n:Nat} {et:TypeId} (h:Ck true sz kd st off len n et=true):st=0/\off=0/\n * sz=len/\TK.sz et=some sz/\(sz=1->TK.kd et=kd):=by simp only [Ck,Bool.not_true,Bool.false_or,zzh] at h;exact ⟨zzg h.1.1,zzg h.1.2.1,zzg h.1.2.2,aJb h.2⟩
noncomputable def lg {α:Type} (C:er α) (fr:Bool) (h:Tr bk) (off len:Nat) (x:bk):Option (List α):=
 match x with
 |.row cells _ st et=>bif Nat.ble (off+len * C.sz) cells.length && Ck fr C.sz C.kd st off cells.length len et then B3 C fr h len ((cells.drop off).take (len * C.sz)) else none
 |_=>none
noncomputable def kl {α:Type} (C:er α) (fr:Bool) (h:Tr bk) (a:AV):Option (List α):=
 match a with
 |.sc v=>match v with
  |.slice none 0 0=>some []
  |_=>none
 |.vl l sz es=>bif Nat.beq sz C.sz && (l || !fr) then Eo C fr h es else none
 |.sl o off len sz=>bif Nat.beq sz C.sz then (h.get o).bind (lg C fr h off len) else none
 |_=>none
noncomputable def aEo {α:Type} (C:er α) (fr:Bool) (h:Tr bk) (l:List AV):Option (List α):=
 match l with
 | [a]=>kl C fr h a
 |_=>none
def mw (off n:Nat) (c:Nat->Value):List Value:=(List.range n).map fun j=>c (off+j)
theorem as4 {α:Type} (C:er α) {fr b0 K w} {xs:List α} {vs:List Value} {b off cap:Nat} (hr:bz (gK b0 K) w (xs.flatMap (C.cells fr)) vs) (aR:xs.length<=cap) (hb:fr=true->b0<=b)
 (hc:∀ j v,vs[j]? = some v->K b (off+j)/\w.cell? ⟨b,off+j,none⟩=some v)
 (hw:fr=true->Whole (gK b0 K) w b off cap C.sz xs.length (fun j=>vs.getD j undef)):Rel (gK b0 K) w (.vl fr C.sz (xs.map (C.val fr))) (.slice (some ⟨b,off,none⟩) xs.length cap):=by
 have pY:(xs.map (C.val fr)).flatMap AV.cells=xs.flatMap (C.cells fr):=by rw [List.flatMap_map];congr 1;funext x;exact C.Dl fr x
 have:=Rel.vl (g:=gK b0 K) (w:=w) fr C.sz (xs.map (C.val fr)) b off cap (fun j=>vs.getD j undef) (fun e he=>by
  obtain ⟨x,_,rfl⟩:=zyl.1 he;rw [C.Dl,C.len]) hb (by simpa using aR)
  (fun j a ha=>by rw [pY] at ha;obtain ⟨v,hv,_⟩:=hr.get ha;have:=hc j v hv;exact ⟨this.1,by rw [this.2,List.getD_eq_getElem?_getD,hv];rfl⟩)
  (fun j a ha=>by rw [pY] at ha;obtain ⟨v,hv,hrel⟩:=hr.get ha;show Rel _ _ a (vs.getD j undef);rw [List.getD_eq_getElem?_getD,hv];exact hrel) (fun e=>by rw [zzo];exact hw e)
 simpa using this
theorem aF5 {α:Type} (C:er α) {fr g h w K b0 a v xs} (aB:Ok g h w) (hl:Au g h K) (hb0:fr=true->b0<=g.b0) (hr:Rel g w a v) (hd:kl C fr h a=some xs):Rel (gK b0 K) w (.vl fr C.sz (xs.map (C.val fr))) v:=by
 cases hr with
 |sc v=>
  simp only [kl] at hd
  split at hd
  ·simp at hd;subst hd;exact .ni _ _
  ·cases hd
 |ni loc sz=>
  simp only [kl] at hd;cases hb:(Nat.beq sz C.sz && (loc || !fr)) with
  |false=>rw [hb] at hd;cases hd
  |true=>rw [hb] at hd;simp [Eo] at hd;subst hd;exact .ni _ _
 |xk loc sz a=>
  simp only [kl] at hd;cases hb:(Nat.beq sz C.sz && (loc || !fr)) with
  |false=>rw [hb] at hd;cases hd
  |true=>rw [hb] at hd;simp [Eo] at hd;subst hd;exact .xk _ _ a
 |vl loc sz es b off cap c hsz hloc aR hc hrel rA=>
  simp only [kl] at hd;cases hb:(Nat.beq sz C.sz && (loc || !fr)) with
  |false=>rw [hb] at hd;cases hd
  |true=>
   rw [hb,cond_true] at hd;have pI:fr=true->b0<=b:=fun e=>by rw [e] at hb;simp at hb;have:=hloc hb.2;have:=hb0 e;omega
   have iM:bz g w (es.flatMap AV.cells) (mw 0 (es.flatMap AV.cells).length c):=by refine ⟨by simp [mw],fun i a v ha hv=>?_⟩;have hi:=(zg.1 ha).1;simp only [mw,zzj,zyk hi,Option.map_some,Option.some.injEq,Nat.zero_add] at hv;subst hv;exact hrel i a ha
   obtain ⟨q1,q2⟩:=aAa C (b0:=b0) aB hl hb0 es _ xs iM hd;rw [<- q2];refine as4 C q1 zO pI (fun j v hv=>?_) ?_;have hj:j<(es.flatMap AV.cells).length:=by have:=(zg.1 hv).1;simpa [mw] using this
   simp only [mw,zzj,zyk hj,Option.map_some,Option.some.injEq,Nat.zero_add] at hv;subst hv;have:=hc j _ (zh hj);exact ⟨hl.K _ _ this.1,this.2⟩;intro e;rw [e] at hb;simp at hb;obtain ⟨w1,⟨cs,et,w2,w3,w4,w5,w6⟩,w7,w8⟩:=rA hb.2;have hsz':sz=C.sz:=zzg (by simpa using hb.1);rw [<- hsz'];refine ⟨fun j=>hl.K _ _ (w1 j),⟨cs,et,w2,w3,w4,w5,fun e1 j x hj hx=>?_⟩,fun e1 e2=>w7 e1 zO,w8⟩;have hn : 0<es.length:=by
    rcases Nat.eq_zero_or_pos es.length with h0|h0
    ·have:=w7 e1 h0;omega
    ·exact h0
   have gO:=Mq es hsz;have h0:(mw 0 (es.flatMap AV.cells).length c).getD 0 undef=c 0:=by rw [List.getD_eq_getElem?_getD,mw,zzj,zyk (by rw [gO,e1];omega)];rfl
   simp only [h0];exact (w6 e1 j x hj hx).imp id (fun q=>⟨q.1,fun h=>q.2 zO⟩)
 |sl o off len sz b base cap hi aR hm hroom=>
  simp only [kl] at hd;cases hb:Nat.beq sz C.sz with
  |false=>rw [hb] at hd;cases hd
  |true=>
   rw [hb,cond_true,Option.bind_eq_some_iff] at hd;obtain ⟨x,hx,hd⟩:=hd;obtain ⟨b',base',hi',jI,hrow⟩:=aB.obj o x hx;rw [hi] at hi';cases hi';cases x with
   |map es=>cases hd
   |loop=>cases hd
   |row cells k st et=>
    simp only [lg] at hd;cases jU:(Nat.ble (off+len * C.sz) cells.length && Ck fr C.sz C.kd st off cells.length len et) with
    |false=>rw [jU] at hd;cases hd
    |true=>
     rw [jU,cond_true] at hd;rw [zzh] at jU;obtain ⟨hle,hro⟩:=jU;have tF:=zB hle;obtain ⟨cs,fz,r1,r2,r3,r4,r5,r6,r7,r8⟩:=hrow;have hpart:bz g w ((cells.drop off).take (len * C.sz)) (mw (base+off) (len * C.sz) (fun j=>cs.getD j undef)):=by
      refine ⟨by simp [mw];omega,fun i a v ha hv=>?_⟩;rw [zyg,zz6] at ha;by_cases cA:i<len * C.sz
      ·rw [if_pos cA] at ha;obtain ⟨u,hu,hrel⟩:=r3 _ a ha;simp only [mw,zzj,zyk cA,Option.map_some,Option.some.injEq] at hv;subst hv;rw [zze,zym,hu];exact hrel
      ·rw [if_neg cA] at ha;cases ha
     obtain ⟨q1,q2⟩:=aGc C (b0:=b0) aB hl hb0 len _ _ xs hpart (by simp;omega) hd;subst q2;refine as4 C q1 aR (fun e=>by have:=hb0 e;omega) (fun j v hv=>?_) ?_;have hj:j<xs.length * C.sz:=by have:=(zg.1 hv).1;simpa [mw] using this
     simp only [mw,zzj,zyk hj,Option.map_some,Option.some.injEq] at hv;obtain ⟨u,hu,_⟩:=r3 (off+j) (cells[off+j]'zO) (by simp);have eF:=hl.rows o cells k st et hx b base hi (off+j) (.inr zO);rw [<- zym] at eF hu;refine ⟨eF,?_⟩;rw [kz r1,hu,<- hv,zze,hu];rfl;intro e;subst e;obtain ⟨s1,s2,s3,s4,s5⟩:=aBf hro;subst s1 s2;obtain ⟨p1,p2,p3⟩:=r8 rfl;subst p1;have jO:sz=C.sz:=zzg hb;obtain ⟨cs1,e1,kA,t1,t2⟩:=hroom;rw [r1] at t1;cases t1;have hf:=r6 (by decide);subst hf;refine ⟨fun j=>by have:=hl.rows o cells k 0 et hx b 0 hi j (.inl rfl);rw [Nat.zero_add] at this;exact this,⟨cs,et,r1,by rw [<- jO];exact t2,s4,by simp,fun e1 j x hj mY=>?_⟩,fun e1 e2=>?_,hm⟩
     ·have hn : 0<xs.length:=by
       rcases Nat.eq_zero_or_pos xs.length with h0|h0
       ·have:=p2 (by rw [<- s3,h0,Nat.zero_mul]);rw [this,jO,e1] at t2;omega
       ·exact h0
      have hk:∀ (j:Nat) v,j<xs.length->cs[j]? = some v->qy v=C.kd:=fun j v hj hv=>by
       have hv':(mw (0+0) (xs.length * C.sz) (fun j=>cs.getD j undef))[j]? = some v:=by rw [mw,zzj,zyk (by rw [e1];omega)];simp [zze,hv]
       have fW:j<(xs.flatMap (C.cells true)).length:=by rw [<- q1.1];exact (zg.1 hv').1
       have hc:=zh fW;obtain ⟨x,_,yH⟩:=List.mem_flatMap.1 (zyo fW);exact C.Ph e1 yH (q1.2 j _ v hc hv')
      have h0:cs[0]? = some (cs.getD 0 undef):=by
       have : 0<cs.size:=by rw [jO,e1] at t2;omega
       rw [zze,zz3 this];rfl
      have h1:(mw (0+0) (xs.length * C.sz) (fun j=>cs.getD j undef)).getD 0 undef=cs.getD 0 undef:=by rw [List.getD_eq_getElem?_getD,mw,zzj,zyk (by rw [e1];omega)];rfl
      simp only [h1];rw [hk 0 _ hn h0];simp only [Nat.zero_add] at mY;by_cases hjn:j<xs.length
      ·exact .inr ⟨hk j x hjn mY,fun hle=>by omega⟩
      ·rw [<- s5 e1];exact (p3 j x (by rw [<- s3,e1];omega) mY).imp id (fun q=>⟨q.1,fun _=>q.2⟩)
     ·have:=p2 (by rw [<- s3,e2,Nat.zero_mul]);rw [this,jO,e1] at t2;omega
 |ug o off sz a=>
  simp only [kl] at hd;cases hb:Nat.beq sz C.sz with
  |false=>rw [hb] at hd;cases hd
  |true=>
   rw [hb,cond_true,Option.bind_eq_some_iff] at hd;obtain ⟨x,hx,hd⟩:=hd;have dO:xs=[]:=by
    cases x with
    |row cells k st et=>
     simp only [lg] at hd;cases hle:(Nat.ble (off+0 * C.sz) cells.length && Ck fr C.sz C.kd _ off cells.length 0 _) with
     |false=>rw [hle] at hd;cases hd
     |true=>rw [hle] at hd;simp [B3] at hd;exact hd
    |_=>cases hd
   subst dO;exact .xk _ _ a
 |uw o off sz=>
  simp only [kl] at hd;cases hb:Nat.beq sz C.sz with
  |false=>rw [hb] at hd;cases hd
  |true=>
   rw [hb,cond_true,Option.bind_eq_some_iff] at hd;obtain ⟨x,hx,hd⟩:=hd;have dO:xs=[]:=by
    cases x with
    |row cells k st et=>
     simp only [lg] at hd;cases hle:(Nat.ble (off+0 * C.sz) cells.length && Ck fr C.sz C.kd _ off cells.length 0 _) with
     |false=>rw [hle] at hd;cases hd
     |true=>rw [hle] at hd;simp [B3] at hd;exact hd
    |_=>cases hd
   subst dO;exact .ni _ _
 |_=>cases hd
end Go.Vm
