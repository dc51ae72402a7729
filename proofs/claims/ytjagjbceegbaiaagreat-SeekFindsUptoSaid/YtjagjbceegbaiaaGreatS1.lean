/- A piece of the proof. Proved: where the arguments are together of bulk at most 1048576, the law SeekFinds returns true (where a name is in a zone), and what it was given reads afterwards as it did before. No other conditions. -/
import Derived.WalkKit
import Derived.CallsIn
import Derived.RangeFuncIn
import Derived.RangeFuncLeaves
import Derived.Orders
import Derived.OrdersIn
import Derived.Scope
import Derived.RangeFuncOwn
import Derived.Stop.SameAnswer
import Derived.Laws.Externs
import Derived.Lib.Bytealg
import Derived.ProofKit
import Derived.OpenShut
import Derived.ReadAgain
import Derived.Deep.Slices
import Derived.ChangeSame
import Derived.Test.YtjagjbceegbaiaaGreatProg
import Derived.KernelRfl
import Derived.Test.YtjagjbceegbaiaaGreatRows
import Derived.Maps.RangeRun
import Derived.Deep.RegionHeld3
import Derived.JoinedCond
import Derived.Test.YtjagjbceegbaiaaGreatS0
set_option linter.unusedSimpArgs false
set_option linter.unusedVariables false
set_option linter.unusedSectionVars false
namespace Go.Vm
variable [TK]
theorem aww {α β:Type} {P:Program}:∀ (s:Sem α) (f : α→Sem β),ev P (s.bind f)=(ev P s).bind fun a=>ev P (f a):=by
 intro s f
 induction s with
 |pure a=>simp [Sem.bind,ev]
 |program k ih=>simp only [Sem.bind,ev];exact ih P
 |choose q k ih=>
  simp only [Sem.bind,ev]
  split
  ·exact ih 0
  ·rfl
 |mark m k ih=>simp only [Sem.bind,ev];exact ih
 |_=>simp [Sem.bind,ev]
theorem Ai {α β:Type} {P:Program} (s:Sem α) (f : α→Sem β):ev P (s >>= f)=(ev P s).bind fun a=>ev P (f a):=aww s f
theorem Dm {α:Type} {P:Program} (a : α):ev P (pure a:Sem α)=some a:=rfl
theorem adz (kind:TypeDesc) (k:Value):∀ (l1 l2:List MapEntry) (i:Nat),l1.map (·.key)=l2.map (·.key) →
 ∀ r,Instr.findNow kind k l1 i=some r→(r=none∧Instr.findNow kind k l2 i=some none)∨∃ j v m,r=some (i+j,v)∧l2[j]? = some m∧Instr.findNow kind k l2 i=some (some (i+j,m.val)):=by
 intro l1
 induction l1 with
 |nil=>
  intro l2 i hk r h
  cases l2 with
  |cons=>simp at hk
  |nil=>simp [Instr.findNow] at h ⊢;exact h.symm
 |cons e l1 ih=>
  intro l2 i hk r h
  cases l2 with
  |nil=>simp at hk
  |cons e2 l2=>
  simp only [List.map_cons,List.cons.injEq] at hk
  obtain ⟨hk1,hk2⟩:=hk
  simp only [Instr.findNow] at h ⊢
  rw [← hk1]
  cases hs:Instr.sameNow kind k e.key with
  |none=>simp [hs] at h
  |some q=>
  cases q with
  |true=>
   simp [hs] at h
   subst h
   exact .inr ⟨0,e.val,e2,rfl,rfl,rfl⟩
  |false=>
   simp only [hs] at h
   rcases ih l2 (i+1) hk2 r h with ⟨h1,h2⟩|⟨j,v,m,h1,h2,h3⟩
   ·exact .inl ⟨h1,h2⟩
   ·exact .inr ⟨j+1,v,m,by rw [h1];congr 2;omega,by simpa using h2,by rw [show i+(j+1)=i+1+j from by omega];exact h3⟩
theorem Rc {P:Program} (kt:TypeId) (k:Value) (w:World):∀ (l1 l2:List MapEntry) (i:Nat),l1.map (·.key)=l2.map (·.key) →
 ∀ r,ev P (Instr.findAsking kt k l1 i)=some r→(r=none∧(Instr.findAsking kt k l2 i).run P w = .ok none w)∨∃ j v m,r=some (i+j,v)∧l2[j]? = some m∧(Instr.findAsking kt k l2 i).run P w = .ok (some (i+j,m.val)) w:=by
 intro l1
 induction l1 with
 |nil=>
  intro l2 i hk r h
  cases l2 with
  |cons=>simp at hk
  |nil=>simp [Instr.findAsking,Dm] at h ⊢;exact h.symm
 |cons e l1 ih=>
  intro l2 i hk r h
  cases l2 with
  |nil=>simp at hk
  |cons e2 l2=>
  simp only [List.map_cons,List.cons.injEq] at hk
  obtain ⟨hk1,hk2⟩:=hk
  simp only [Instr.findAsking,Ai] at h ⊢
  cases hq:ev P (Op.equal kt k e.key) with
  |none=>simp [hq] at h
  |some q=>
  have hrun:=Bo _ _ w hq
  rw [hk1] at hrun
  rw [hq] at h
  cases q with
  |true=>
   simp [Dm] at h
   subst h
   exact .inr ⟨0,e.val,e2,rfl,rfl,by simp [hrun]⟩
  |false=>
   simp at h
   rcases ih l2 (i+1) hk2 r h with ⟨h1,h2⟩|⟨j,v,m,h1,h2,h3⟩
   ·exact .inl ⟨h1,by simp [hrun,h2]⟩
   ·exact .inr ⟨j+1,v,m,by rw [h1];congr 2;omega,by simpa using h2,by rw [show i+(j+1)=i+1+j from by omega];simp [hrun,h3]⟩
theorem Y7 {P:Program} {t:TypeId} {d:TypeDesc} (h:ev P (underlying t)=some d):P.underlying t=some d:=by
 have h1:=Bo (P:=P) _ _ (default:World) h
 cases hu:P.underlying t with
 |some d'=>rw [run_underlying hu] at h1;cases h1;rfl
 |none=>
  exfalso
  have:∀ w,(underlying t).run P w ≠ .ok d w:=by
   intro w
   simp only [underlying,Sem.run_bind]
   simp [program,Sem.run,hu,stuck]
  exact this _ h1
theorem afs {P:Program} {g:Gh} {w:World} {kt:TypeId} {k:Value} {es:List (Value × AV)} {ms:Array MapEntry} (hlen:ms.size=es.length)
 (hkv:∀ (i:Nat) e m,es[i]? = some e→ms[i]? = some m→m.key=e.1∧Rel g w e.2 m.val) {r:Option Nat} (h:(ev P (Instr.findKey kt k (tg es))).map (fun r=>r.map (·.1))=some r) :
 (r=none∧(Instr.findKey kt k ms.toList).run P w = .ok none w)∨∃ i e m,r=some i∧es[i]? = some e∧ms[i]? = some m∧(Instr.findKey kt k ms.toList).run P w = .ok (some (i,m.val)) w:=by
 unfold tg at h
 have hkeys:(es.map fun e=>({ key:=e.1,val:=undef,born:=0 }:MapEntry)).map (·.key)=ms.toList.map (·.key):=by
  apply List.ext_getElem?
  intro i
  simp only [List.map_map,List.getElem?_map,Array.getElem?_toList]
  by_cases hi:i<es.length
  ·have e1:=List.getElem?_eq_getElem hi
   have e2:=Array.getElem?_eq_getElem (xs:=ms) (i:=i) (by omega)
   rw [e1,e2]
   simp only [Option.map_some,Function.comp_apply]
   rw [(hkv i _ _ e1 e2).1]
  ·rw [List.getElem?_eq_none (by omega),Array.getElem?_eq_none (by omega)];rfl
 have conv:∀ (j:Nat) (m:MapEntry),ms.toList[j]? = some m→∃ e,es[j]? = some e∧ms[j]? = some m:=by
  intro j m hm
  rw [Array.getElem?_toList] at hm
  have hj:j<es.length:=by rw [← hlen];exact (Array.getElem?_eq_some_iff.1 hm).1
  exact ⟨es[j],List.getElem?_eq_getElem hj,hm⟩
 simp only [Option.map_eq_some_iff] at h
 obtain ⟨r0,h1,rfl⟩:=h
 unfold Instr.findKey at h1
 rw [Ai] at h1
 cases hu:ev P (underlying kt) with
 |none=>simp [hu] at h1
 |some d=>
 have hu':=Y7 hu
 rw [hu] at h1
 simp only [Option.bind_some] at h1
 cases hf:Instr.findNow d k (es.map fun e=>({ key:=e.1,val:=undef,born:=0 }:MapEntry)) 0 with
 |some r1=>
  rw [hf] at h1
  simp [Dm] at h1
  subst h1
  rcases adz d k _ _ 0 hkeys r1 hf with ⟨rfl,h3⟩|⟨j,v,m,rfl,h3,h4⟩
  ·exact .inl ⟨rfl,by simp [Instr.findKey,run_underlying hu',h3]⟩
  ·obtain ⟨e,e1,e2⟩:=conv j m h3
   exact .inr ⟨j,e,m,by simp,e1,e2,by simp [Instr.findKey,run_underlying hu',h4]⟩
 |none=>
  have hf2:Instr.findNow d k ms.toList 0=none:=by
   have key:∀ (l1 l2:List MapEntry) (i:Nat),l1.map (·.key)=l2.map (·.key)→Instr.findNow d k l1 i=none→Instr.findNow d k l2 i=none:=by
    intro l1
    induction l1 with
    |nil=>intro l2 i hk h;simp [Instr.findNow] at h
    |cons a l1 ih=>
     intro l2 i hk h
     cases l2 with
     |nil=>simp at hk
     |cons b l2=>
     simp only [List.map_cons,List.cons.injEq] at hk
     simp only [Instr.findNow] at h ⊢
     rw [← hk.1]
     cases hs:Instr.sameNow d k a.key with
     |none=>rfl
     |some q=>
      cases q with
      |true=>simp [hs] at h
      |false=>simp only [hs] at h ⊢;exact ih l2 (i+1) hk.2 h
   exact key _ _ 0 hkeys hf
  rw [hf] at h1
  simp only at h1
  rcases Rc kt k w _ _ 0 hkeys r0 h1 with ⟨rfl,h3⟩|⟨j,v,m,rfl,h3,h4⟩
  ·exact .inl ⟨rfl,by simp [Instr.findKey,run_underlying hu',hf2,h3]⟩
  ·obtain ⟨e,e1,e2⟩:=conv j m h3
   exact .inr ⟨j,e,m,by simp,e1,e2,by simp [Instr.findKey,run_underlying hu',hf2,h4]⟩
theorem Bz (d:TypeDesc) (k:Value):∀ (L:List MapEntry) (i:Nat),(∀ m ∈ L,(Instr.sameNow d k m.key).isSome=true) →
 (Instr.findNow d k L i=some none∧∀ m ∈ L,Instr.sameNow d k m.key=some false)∨∃ j m,L[j]? = some m∧Instr.sameNow d k m.key=some true∧Instr.findNow d k L i=some (some (i+j,m.val))
 | [],i,_=>.inl ⟨rfl,fun m hm=>by cases hm⟩
 |e::L,i,h=>by
  have h0:=h e (by simp)
  cases hs:Instr.sameNow d k e.key with
  |none=>rw [hs] at h0;cases h0
  |some q=>
   cases q with
   |true=>exact .inr ⟨0,e,rfl,hs,by simp [Instr.findNow,hs]⟩
   |false=>
    rcases Bz d k L (i+1) (fun m hm=>h m (by simp [hm])) with ⟨h1,h2⟩|⟨j,m,h1,h2,h3⟩
    ·refine .inl ⟨by simp [Instr.findNow,hs,h1],fun m hm=>?_⟩
     rcases List.mem_cons.1 hm with rfl|hm
     ·exact hs
     ·exact h2 m hm
    ·exact .inr ⟨j+1,m,by simpa using h1,h2,by simp only [Instr.findNow,hs];rw [h3,show i+1+j=i+(j+1) from by omega]⟩
theorem Ch (a b:ByteArray):(a == b)=true↔a=b:=by
 obtain ⟨x⟩:=a
 obtain ⟨y⟩:=b
 show (x == y)=true↔_
 simp
theorem ze {d:TypeDesc} {k a:Value} {q:Bool} (h:Instr.sameNow d k a=some q) :
 (∃ kd k0 n m,d = .int kd∧k = .int k0 n∧a = .int k0 m∧q=(n == m))∨(∃ s t,d = .string∧k = .string s∧a = .string t∧q=(s == t))∨(∃ x y,d = .bool∧k = .bool x∧a = .bool y∧q=(x == y)):=by
 unfold Instr.sameNow at h
 split at h
 ·split at h
  ·rename_i e
   subst e
   simp only [Option.some.injEq] at h
   exact .inl ⟨_,_,_,_,rfl,rfl,rfl,h.symm⟩
  ·cases h
 ·simp only [Option.some.injEq] at h
  exact .inr (.inl ⟨_,_,rfl,rfl,rfl,h.symm⟩)
 ·simp only [Option.some.injEq] at h
  exact .inr (.inr ⟨_,_,rfl,rfl,rfl,h.symm⟩)
 ·cases h
theorem af1 {d:TypeDesc} {k a b:Value} (ha:Instr.sameNow d k a=some true) (hb:Instr.sameNow d k b=some true):tq a b=false:=by
 rcases ze ha with ⟨kd,k0,n,m,rfl,rfl,rfl,e⟩|⟨s,t,rfl,rfl,rfl,e⟩|⟨x,y,rfl,rfl,rfl,e⟩
 ·rcases ze hb with ⟨kd',k0',n',m',_,e2,rfl,e3⟩|⟨s,t,e2,_⟩|⟨x,y,e2,_⟩
  ·cases e2
   have e4:=eq_of_beq e.symm
   have e5:=eq_of_beq e3.symm
   subst e4 e5
   simp [tq]
  ·cases e2
  ·cases e2
 ·rcases ze hb with ⟨kd',k0',n',m',e2,_⟩|⟨s',t',_,e2,rfl,e3⟩|⟨x,y,e2,_⟩
  ·cases e2
  ·cases e2
   have e4:=(Ch _ _).1 e.symm
   have e5:=(Ch _ _).1 e3.symm
   subst e4 e5
   have:(s == s)=true:=(Ch _ _).2 rfl
   simp [tq,this]
  ·cases e2
 ·rfl
theorem ad3 {d:TypeDesc} {k a b:Value} (h:tq a b=true) (ha:(Instr.sameNow d k a).isSome=true):(Instr.sameNow d k b).isSome=true:=by
 obtain ⟨q,hq⟩:=Option.isSome_iff_exists.1 ha
 rcases ze hq with ⟨kd,k0,n,m,rfl,rfl,rfl,e⟩|⟨s,t,rfl,rfl,rfl,e⟩|⟨x,y,rfl,rfl,rfl,e⟩
 ·cases b<;>first|(cases h;done)|skip
  rename_i k1 n1
  simp only [tq,Bool.and_eq_true,decide_eq_true_eq] at h
  obtain ⟨rfl,_⟩:=h
  simp [Instr.sameNow]
 ·cases b<;>first|(cases h;done)|rfl
 ·cases h
theorem agf (a b:Value):tq a b=tq b a:=by
 cases a<;>cases b<;>first|rfl|skip
 ·rename_i k n k' m
  simp only [tq]
  by_cases h1:k=k'
  ·subst h1
   have:(n == m)=(m == n):=Bool.eq_iff_iff.2 ⟨fun h=>beq_iff_eq.2 (eq_of_beq h).symm,fun h=>beq_iff_eq.2 (eq_of_beq h).symm⟩
   simp [this]
  ·simp [h1,Ne.symm h1]
 ·rename_i s t
  simp only [tq]
  have:(s == t)=(t == s):=Bool.eq_iff_iff.2 (by rw [Ch,Ch];exact eq_comm)
  rw [this]
theorem Kv:∀ {es:List (Value × AV)},Ci es=true→∀ {i j:Nat} {e e':Value × AV},i<j→es[i]? = some e→es[j]? = some e'→tq e.1 e'.1=true
 | [],_,i,j,e,e',_,h,_=>by simp at h
 |a::r,h,i,j,e,e',hij,hi,hj=>by
  simp only [Ci,Bool.and_eq_true,List.all_eq_true] at h
  obtain ⟨j,rfl⟩:∃ q,j=q+1:=⟨j - 1,by omega⟩
  cases i with
  |zero=>
   simp at hi
   subst hi
   exact h.1 e' (List.mem_of_getElem? (by rw [List.getElem?_cons_succ] at hj;exact hj))
  |succ i=>
   rw [List.getElem?_cons_succ] at hi hj
   exact Kv h.2 (by omega) hi hj
theorem Rt {es:List (Value × AV)} (h:Ci es=true) {i j:Nat} {e e':Value × AV} (hij:i≠j) (hi:es[i]? = some e) (hj:es[j]? = some e'):tq e.1 e'.1=true:=by
 rcases Nat.lt_or_gt_of_ne hij with q|q
 ·exact Kv h q hi hj
 ·rw [agf];exact Kv h q hj hi
def azj (P:Program) (g:Gh) (w:World) (kt:TypeId) (k:Value) (es:List (Value × AV)) (ms:Array MapEntry) (r:Option Nat):Prop:=
 (r=none∧(Instr.findKey kt k ms.toList).run P w = .ok none w) ∨
 ∃ i j e m l,r=some i∧es[i]? = some e∧ms[j]? = some m∧(Instr.findKey kt k ms.toList).run P w = .ok (some (j,m.val)) w∧l.Perm ms.toList∧l[i]? = some m ∧
  (∀ (i:Nat) e m,es[i]? = some e→l[i]? = some m→m.key=e.1∧Rel g w e.2 m.val)∧(l=ms.toList∧i=j∨loose es=true)
theorem Bf {P:Program} {g:Gh} {w:World} {kt:TypeId} {k:Value} {es:List (Value × AV)} {ms:Array MapEntry} {c:Nat} (hm:rn g w es ms c) {r:Option Nat} (h:uh P kt k es=some r):azj P g w kt k es ms r:=by
 unfold uh at h
 cases hlo:loose es with
 |false=>
  rw [hlo] at h
  rcases afs hm.len (hm.exact hlo) h with h1|⟨i,e,m,h1,h2,h3,h4⟩
  ·exact .inl h1
  ·exact .inr ⟨i,i,e,m,ms.toList,h1,h2,h3,h4,.refl _,by simpa using h3,fun i e m he hm'=>hm.exact hlo i e m he (by simpa using hm'),.inl ⟨rfl,rfl⟩⟩
 |true=>
  rw [hlo] at h
  cases hn:akk P kt k es with
  |false=>rw [hn] at h;cases h
  |true=>
  rw [hn] at h
  simp only [Bool.not_true,Bool.or_true,cond_true] at h
  unfold akk at hn
  cases hu:P.underlying kt with
  |none=>rw [hu] at hn;cases hn
  |some d=>
  rw [hu] at hn
  simp only at hn
  have hevu:ev P (underlying kt)=some d:=by
   simp [underlying,program,ev,hu,Ai,Dm,Sem.bind,bind]
  have hevk:ev P (Instr.findKey kt k (tg es))=Instr.findNow d k (tg es) 0:=by
   unfold Instr.findKey
   rw [Ai,hevu]
   simp only [Option.bind_some]
   cases hq:Instr.findNow d k (tg es) 0 with
   |none=>rw [hq] at hn;cases hn
   |some q=>rfl
  rw [hevk] at h
  unfold loose at hlo
  simp only [Bool.and_eq_true] at hlo
  obtain ⟨hlen2,hap⟩:=hlo
  have hlen2:=Nat.le_of_ble_eq_true hlen2
  obtain ⟨l,p1,p2,p3⟩:=hm.perm
  have hll:l.length=es.length:=by rw [p1.length_eq,← hm.len];simp
  have hkeysM:∀ (i:Nat) m,(tg es)[i]? = some m→∃ e,es[i]? = some e∧m.key=e.1:=fun i m hi=>by
   simp only [tg,List.getElem?_map,Option.map_eq_some_iff] at hi
   obtain ⟨e,h1,rfl⟩:=hi
   exact ⟨e,h1,rfl⟩
  have hes:∀ (i:Nat) e,es[i]? = some e→(Instr.sameNow d k e.1).isSome=true:=by
   obtain ⟨e0,r0,rfl⟩:∃ e0 r0,es=e0::r0:=by
    cases es with
    |nil=>simp at hlen2
    |cons a r=>exact ⟨a,r,rfl⟩
   have h0:(Instr.sameNow d k e0.1).isSome=true:=by
    simp only [tg,List.map_cons,Instr.findNow] at hn
    cases hq:Instr.sameNow d k e0.1 with
    |none=>rw [hq] at hn;cases hn
    |some q=>rfl
   intro i e hi
   cases i with
   |zero=>simp at hi;subst hi;exact h0
   |succ i=>exact ad3 (Rt hap (i:=0) (j:=i+1) (by omega) rfl hi) h0
  have hmem:∀ m ∈ ms.toList,∃ (i:Nat) (e:Value × AV),l[i]? = some m∧es[i]? = some e∧m.key=e.1:=fun m hmm=>by
   obtain ⟨i,hi⟩:=List.mem_iff_getElem?.1 (p1.mem_iff.2 hmm)
   have hil:i<es.length:=by rw [← hll];exact (List.getElem?_eq_some_iff.1 hi).1
   exact ⟨i,es[i],hi,List.getElem?_eq_getElem hil,(p2 i _ m (List.getElem?_eq_getElem hil) hi).1⟩
  have hms:∀ m ∈ ms.toList,(Instr.sameNow d k m.key).isSome=true:=fun m hmm=>by
   obtain ⟨i,e,_,h2,h3⟩:=hmem m hmm
   rw [h3];exact hes i e h2
  have hks:∀ m ∈ tg es,(Instr.sameNow d k m.key).isSome=true:=fun m hmm=>by
   obtain ⟨i,hi⟩:=List.mem_iff_getElem?.1 hmm
   obtain ⟨e,h1,h2⟩:=hkeysM i m hi
   rw [h2];exact hes i e h1
  have hrun:∀ r,Instr.findNow d k ms.toList 0=some r→(Instr.findKey kt k ms.toList).run P w = .ok r w:=fun r hr=>by simp [Instr.findKey,run_underlying hu,hr]
  rcases Bz d k ms.toList 0 hms with ⟨a1,a2⟩|⟨j,m,a1,a2,a3⟩
  ·rcases Bz d k (tg es) 0 hks with ⟨b1,b2⟩|⟨i,m,b1,b2,b3⟩
   ·rw [b1] at h
    simp at h
    exact .inl ⟨h.symm,hrun _ a1⟩
   ·exfalso
    obtain ⟨e,c1,c2⟩:=hkeysM i m b1
    have hil:i<l.length:=by rw [hll];exact (List.getElem?_eq_some_iff.1 c1).1
    have hl:=List.getElem?_eq_getElem hil
    have:=(p2 i e _ c1 hl).1
    have hf:=a2 l[i] (p1.mem_iff.1 (List.mem_of_getElem? hl))
    rw [this,← c2,b2] at hf
    cases hf
  ·obtain ⟨i,e,c1,c2,c3⟩:=hmem m (List.mem_of_getElem? a1)
   rcases Bz d k (tg es) 0 hks with ⟨b1,b2⟩|⟨i',m',b1,b2,b3⟩
   ·exfalso
    have hk:(tg es)[i]? = some { key:=e.1,val:=undef,born:=0 }:=by simp [tg,c2]
    have:=b2 _ (List.mem_of_getElem? hk)
    simp only at this
    rw [← c3,a2] at this
    cases this
   ·obtain ⟨e',d1,d2⟩:=hkeysM i' m' b1
    have hii:i'=i:=by
     rcases Nat.decEq i' i with hne|he
     ·have h5:=Rt hap hne d1 c2
      rw [← d2,← c3,af1 b2 a2] at h5
      cases h5
     ·exact he
    subst hii
    rw [b3] at h
    simp at h
    refine .inr ⟨i',j,e,m,l,h.symm,c2,by simpa using a1,hrun _ (by simpa using a3),p1,c1,p2,.inr ?_⟩
    unfold loose
    rw [Nat.ble_eq_true_of_le hlen2,hap]
    rfl
theorem alp {α:Type} {l k:List α} (h:l.Perm k) (hl:l.length≤1):l=k:=by
 match l,hl with
 | [],_=>exact (h.symm.eq_nil).symm
 | [a],_=>exact (List.perm_singleton.1 h.symm).symm
theorem Iu {es es':List (Value × AV)} {l l' k k':List MapEntry} (hx:l=k→l'=k') (hm:l=k∨loose es=true) (hs:stays es es'=true) (hp:l'.Perm k') (hlen:l'.length=es'.length):l'=k'∨loose es'=true:=by
 rcases hm with hm|hm
 ·exact .inl (hx hm)
 ·unfold stays at hs
  rw [hm] at hs
  simp only [Bool.not_true,Bool.false_or,Bool.or_eq_true] at hs
  rcases hs with hs|hs
  ·exact .inr hs
  ·exact .inl (alp hp (by rw [hlen];exact Nat.le_of_ble_eq_true hs))
theorem axk {P:Program} {w:World} {b:Nat} {ms:Array MapEntry} {c:Nat} (o:Obj) (h:w.heap[b]? = some (.map ms c)):(setObj b o).run P w = .ok () (gp w b o):=by
 simp [setObj,Sem.run,h,gp]
theorem Ng {P:Program} {g:Gh} {st s1 st':St} {w:World} {o b base:Nat} {es es':List (Value × AV)} {ms ms':Array MapEntry} {c c':Nat} {u:Unit}
 (hok:Ok g st.h w) (ho:st.h.get o=some (.map es)) (hi:g.inj o=some (b,base)) (hb0:base=0) (hm:w.heap[b]? = some (.map ms c)) (hrel:rn g w es' ms' c')
 (hs1:s1.h=st.h∧s1.nx=st.nx) (h:po o (.map es') s1=some (u,st')) :
 (setObj b (.map ms' c')).run P w = .ok () (gp w b (.map ms' c'))∧Step g st.h w st.nx st'.nx g st'.h (gp w b (.map ms' c'))∧Ok g st'.h (gp w b (.map ms' c')):=by
 obtain ⟨_,hlim,hh2,hn2⟩:=xt h
 have hmod:=wm (x:=.map es) (x':=.map es') (lo:=st.nx) (up:=st'.nx) (ob':=.map ms' c') hok ho hi hm (fun cs0 e0 fr0 he=>by cases he)
  (fun j hj=>by simp [World.cell?,hm,ia _ (br hm)]) hlim
  (fun hext=>⟨hb0,ms',c',ia _ (br hm),hrel.same rfl id fun i e v he=>⟨e,he,rfl,fun hr=>hr.ext hext⟩⟩)
 exact ⟨axk _ hm,by rw [hh2,hs1.1];exact hmod.1,by rw [hh2,hs1.1];exact hmod.2⟩
theorem isEmpty_eq {es:List (Value × AV)} {ms:Array MapEntry} (h:ms.size=es.length):ms.isEmpty=es.isEmpty:=by
 cases es with
 |nil=>simp at h;simp [h]
 |cons e es=>
  simp only [List.isEmpty_cons]
  cases hm:ms.isEmpty with
  |false=>rfl
  |true=>simp at hm;subst hm;simp at h
theorem Y6 {P:Program} {kt et:TypeId} {k:Value} {ok:Bool} {x:bh} {s st':St} {r:AV} (h:Lg P kt et k ok x s=some (r,st')) :
 ∃ es,x = .map es∧ev P (Instr.checkKey es.isEmpty 10000 kt k)=some ()∧∃ z,fh P et=some z∧st'=s ∧
  ((∃ i e,uh P kt k es=some (some i)∧es[i]? = some e∧r=bif ok then .gi [e.2,.sc (.bool true)] else e.2)∨(uh P kt k es=some none∧r=bif ok then .gi [.sc z,.sc (.bool false)] else .sc z)):=by
 cases x with
 |row=>cases h
 |loop=>cases h
 |map es=>
  refine ⟨es,rfl,?_⟩
  simp only [Lg] at h
  cases hc:ev P (Instr.checkKey es.isEmpty 10000 kt k) with
  |none=>simp [hc,M.fail] at h
  |some u=>
  cases hf:uh P kt k es with
  |none=>simp [hc,hf,M.fail] at h
  |some q=>
  refine ⟨rfl,?_⟩
  cases q with
  |none=>
   simp only [hc,hf] at h
   cases hz:fh P et with
   |none=>simp [hz,found,M.fail] at h
   |some z=>
    rw [hz] at h
    obtain ⟨h1,h2⟩:=cb h
    exact ⟨z,rfl,h2,.inr ⟨rfl,h1⟩⟩
  |some i=>
   simp only [hc,hf] at h
   cases he:es[i]? with
   |none=>simp [he,M.fail] at h
   |some e=>
   rw [he] at h
   cases hz:fh P et with
   |none=>simp [hz,found,M.fail] at h
   |some z=>
    rw [hz] at h
    obtain ⟨h1,h2⟩:=cb h
    exact ⟨z,rfl,h2,.inl ⟨i,e,rfl,he,h1⟩⟩
theorem ayc {g w a v} {b:Bool} (h:Rel g w a v):Rel g w (.gi [a,.sc (.bool b)]) (.tuple #[v,.bool b]):=
 .gi _ _ rfl (fun i x y h1 h2=>by
  cases i with
  |zero=>simp at h1 h2;subst h1 h2;exact h
  |succ i=>cases i with
   |zero=>simp at h1 h2;subst h1 h2;exact .sc _
   |succ i=>simp at h1)
theorem agw {P:Program} {g st st' w} {t:TypeId} {x ix r:AV} {v k:Value} {ok:Bool} (hok:Ok g st.h w) (hx:Rel g w x v) (hk:Rel g w ix k) (h:Qh P t x ix ok st=some (r,st')) :
 cx P g st w (Instr.lookup t v k ok) r st':=by
 unfold Qh at h
 cases hu:P.underlying t with
 |none=>simp [hu,M.fail] at h
 |some d=>
 rw [hu] at h
 cases d with
 |map kt et=>
  cases x with
  |mp id=>
   cases hkv:ix.il with
   |none=>simp [hkv,M.fail] at h
   |some kv=>
   simp only [hkv] at h
   have:=hk.exact hkv
   subst this
   obtain ⟨y,s1,h1,h2⟩:=bind_some h
   obtain ⟨hy,hh,hn⟩:=gj h1
   obtain ⟨es,rfl,hc,z,hz,rfl,hr⟩:=Y6 h2
   cases hx with
   |mp _ b base hi=>
   obtain ⟨b',base',hi',_,hrel⟩:=hok.obj id _ hy
   rw [hi] at hi';cases hi'
   obtain ⟨_,ms,clock,m1,m2⟩:=hrel
   have hck:=Bo _ _ w hc
   rw [← isEmpty_eq m2.len] at hck
   rcases hr with ⟨i,e,hf,he,rfl⟩|⟨hf,rfl⟩
   ·rcases Bf m2 hf with ⟨h3,_⟩|⟨i',j,e',m,l,h3,h4,h5,h6,_,h7,h8,_⟩
    ·cases h3
    ·cases h3
     rw [he] at h4;cases h4
     cases ok with
     |true=>exact cx.still hok hh (by simp [Instr.lookup,run_underlying hu,za m1,hck,h6]) (ayc (h8 _ _ _ he h7).2)
     |false=>exact cx.still hok hh (by simp [Instr.lookup,run_underlying hu,za m1,hck,h6]) (h8 _ _ _ he h7).2
   ·rcases Bf m2 hf with ⟨_,h3⟩|⟨i',j,e',m,l,h3,_⟩
    ·cases ok with
     |true=>exact cx.still hok hh (by simp [Instr.lookup,run_underlying hu,za m1,hck,h3,kq hz]) (ayc (.sc z))
     |false=>exact cx.still hok hh (by simp [Instr.lookup,run_underlying hu,za m1,hck,h3,kq hz]) (.sc z)
    ·cases h3
  |_=>cases h
 |_=>cases h
theorem F5 {α:Type} (l:List α) (i:Nat) (x : α) (hi:i<l.length) (j:Nat):(setAt l i x)[j]? = if j=i then some x else l[j]? := by
 unfold setAt
 have hl:(l.take i).length=i:=by simp;omega
 by_cases h1:j<i
 ·rw [List.getElem?_append_left (by omega),List.getElem?_take,if_pos h1,if_neg (by omega)]
 ·rw [List.getElem?_append_right (by omega),hl]
  by_cases h2:j=i
  ·subst h2;simp
  ·rw [if_neg h2,show j - i=(j - i - 1)+1 from by omega,List.getElem?_cons_succ,List.getElem?_drop]
   congr 1;omega
theorem E1 {α:Type} (l:List α) (i:Nat) (x : α) (hi:i<l.length):(setAt l i x).length=l.length:=by
 unfold setAt;simp;omega
theorem Zu {P:Program} {id:Nat} {kt:TypeId} {key:Value} {v:AV} {x:bh} {s st':St} {r:AV} (h:Lk P id kt key v x s=some (r,st')) :
 ∃ es,x = .map es∧ev P (Instr.checkKey false 10000 kt key)=some ()∧r = .sc undef ∧
  (
   (∃ i e key' u,uh P kt key es=some (some i)∧es[i]? = some e∧ev P (Instr.keyThatStays e.1 key)=some key'∧stays es (setAt es i (key',v))=true∧po id (.map (setAt es i (key',v))) s=some (u,st')) ∨
   (∃ u,uh P kt key es=some none∧stays es (es++[(key,v)])=true∧po id (.map (es++[(key,v)])) s=some (u,st'))):=by
 cases x with
 |row=>cases h
 |loop=>cases h
 |map es=>
  refine ⟨es,rfl,?_⟩
  simp only [Lk] at h
  cases hc:ev P (Instr.checkKey false 10000 kt key) with
  |none=>simp [hc,M.fail] at h
  |some u=>
  cases hf:uh P kt key es with
  |none=>simp [hc,hf,M.fail] at h
  |some q=>
  refine ⟨rfl,?_⟩
  cases q with
  |none=>
   simp only [hc,hf] at h
   rcases cd h with ⟨hs,h⟩|⟨_,h⟩
   ·obtain ⟨u,s1,h1,h2⟩:=bind_some h
    obtain ⟨rfl,rfl⟩:=cb h2
    exact ⟨rfl,.inr ⟨u,rfl,hs,h1⟩⟩
   ·cases h
  |some i=>
   simp only [hc,hf] at h
   cases he:es[i]? with
   |none=>simp [he,M.fail] at h
   |some e=>
   simp only [he] at h
   cases hk:ev P (Instr.keyThatStays e.1 key) with
   |none=>simp [hk,M.fail] at h
   |some key'=>
   simp only [hk] at h
   rcases cd h with ⟨hs,h⟩|⟨_,h⟩
   ·obtain ⟨u,s1,h1,h2⟩:=bind_some h
    obtain ⟨rfl,rfl⟩:=cb h2
    exact ⟨rfl,.inl ⟨i,e,key',u,rfl,he,hk,hs,h1⟩⟩
   ·cases h
theorem ab1 {L:List MapEntry} (hb:(L.map (·.born)).Nodup) {i j:Nat} {m:MapEntry} (hi:L[i]? = some m) (hj:L[j]? = some m):i=j:=by
 have key:∀ i j:Nat,i<j→L[i]? = some m→L[j]? = some m→False:=by
  intro i j hij hi hj
  obtain ⟨h1,e1⟩:=List.getElem?_eq_some_iff.1 hi
  obtain ⟨h2,e2⟩:=List.getElem?_eq_some_iff.1 hj
  have:=List.pairwise_iff_getElem.1 hb i j (by simpa using h1) (by simpa using h2) hij
  simp only [List.getElem_map,e1,e2] at this
  exact this rfl
 rcases Nat.lt_trichotomy i j with q|q|q
 ·exact (key i j q hi hj).elim
 ·exact q
 ·exact (key j i q hj hi).elim
theorem Dh {α:Type} {l:List α} {i:Nat} {m : α} (h:l[i]? = some m):l.Perm (m::(l.take i++l.drop (i+1)))∧∀ m',(setAt l i m').Perm (m'::(l.take i++l.drop (i+1))):=by
 obtain ⟨hi,rfl⟩:=List.getElem?_eq_some_iff.1 h
 refine ⟨?_,fun m'=>List.perm_middle⟩
 have:l=l.take i++l[i]::l.drop (i+1):=by rw [← List.drop_eq_getElem_cons hi,List.take_append_drop]
 exact (List.Perm.of_eq this).trans List.perm_middle
theorem abj {α:Type} {l k:List α} (h:l.Perm k) {i j:Nat} {m : α} (hi:l[i]? = some m) (hj:k[j]? = some m):(l.take i++l.drop (i+1)).Perm (k.take j++k.drop (j+1)):=
 List.Perm.cons_inv (((Dh hi).1.symm.trans h).trans (Dh hj).1)
theorem ajp {α:Type} {l k:List α} (h:l.Perm k) {i j:Nat} {m m' : α} (hi:l[i]? = some m) (hj:k[j]? = some m):(setAt l i m').Perm (setAt k j m'):=
 (((Dh hi).2 m').trans ((abj h hi hj).cons m')).trans ((Dh hj).2 m').symm
theorem Wd {α:Type} (l:List α) (i:Nat) (hi:i<l.length) (j:Nat):(l.take i++l.drop (i+1))[j]? = if j<i then l[j]? else l[j+1]? := by
 have hl:(l.take i).length=i:=by simp;omega
 by_cases h1:j<i
 ·rw [if_pos h1,List.getElem?_append_left (by omega),List.getElem?_take,if_pos h1]
 ·rw [if_neg h1,List.getElem?_append_right (by omega),hl,List.getElem?_drop]
  congr 1;omega
theorem Oo {P:Program} {g st st' w} {t:TypeId} {m k x r:AV} {mv kv xv:Value} (hok:Ok g st.h w) (hm:Rel g w m mv) (hk:Rel g w k kv) (hx:Rel g w x xv) (h:Qp P t m k x st=some (r,st')) :
 ∃ w' g',(Instr.mapUpdate t mv kv xv).run P w = .ok () w'∧Step g st.h w st.nx st'.nx g' st'.h w'∧Ok g' st'.h w'∧r = .sc undef:=by
 unfold Qp at h
 cases hu:P.underlying t with
 |none=>simp [hu,M.fail] at h
 |some d=>
 rw [hu] at h
 cases d with
 |map kt et=>
  cases m with
  |mp id=>
   cases hkv:k.il with
   |none=>simp [hkv,M.fail] at h
   |some key=>
   simp only [hkv] at h
   have:=hk.exact hkv
   subst this
   obtain ⟨y,s1,h1,h2⟩:=bind_some h
   obtain ⟨hy,hh,hn⟩:=gj h1
   obtain ⟨es,rfl,hc,rfl,hr⟩:=Zu h2
   cases hm with
   |mp _ b base hi=>
   obtain ⟨b',base',hi',_,hrel⟩:=hok.obj id _ hy
   rw [hi] at hi';cases hi'
   obtain ⟨hb0,ms,clock,m1,m2⟩:=hrel
   have hck:=Bo _ _ w hc
   rcases hr with ⟨i,e,key',u,hf,he,hkt,hst',hs⟩|⟨u,hf,hst',hs⟩
   ·rcases Bf m2 hf with ⟨h3,_⟩|⟨i',j,e',mm,l,h3,h4,h5,h6,p1,p2,p3,p4⟩
    ·cases h3
    ·cases h3
     rw [he] at h4;cases h4
     have hil:i<es.length:=(List.getElem?_eq_some_iff.1 he).1
     have hll:l.length=es.length:=by rw [p1.length_eq,← m2.len];simp
     have hkey:=(p3 _ _ _ he p2).1
     have hst:=Bo _ _ w hkt
     rw [← hkey] at hst
     have h5':ms.toList[j]? = some mm:=by simpa using h5
     have hjl:=(List.getElem?_eq_some_iff.1 h5').1
     have hml:(ms.modify j fun e=>{ e with key:=key',val:=xv }).toList=setAt ms.toList j { mm with key:=key',val:=xv }:=by
      apply List.ext_getElem?
      intro n
      rw [Array.getElem?_toList,Array.getElem?_modify,F5 _ _ _ hjl,Array.getElem?_toList]
      by_cases hn:n=j
      ·subst hn;simp [h5]
      ·rw [if_neg hn,if_neg (Ne.symm hn)]
     have hborn:(ms.modify j fun e=>{ e with key:=key',val:=xv }).toList.map (·.born)=ms.toList.map (·.born):=by
      apply List.ext_getElem?
      intro n
      rw [hml,List.getElem?_map,List.getElem?_map,F5 _ _ _ hjl]
      by_cases hn:n=j
      ·subst hn;rw [if_pos rfl,h5'];rfl
      ·rw [if_neg hn]
     have hrel':rn g w (setAt es i (key',x)) (ms.modify j fun e=>{ e with key:=key',val:=xv }) clock:=by
      have hp:=ajp (m':={ mm with key:=key',val:=xv }) p1 p2 h5'
      refine ⟨by rw [E1 _ _ _ hil];simpa using m2.len,by rw [hborn];exact m2.born,fun m hm=>?_,setAt l i { mm with key:=key',val:=xv },by rw [hml];exact hp,fun n e m hj hm=>?_,?_⟩
      ·have:m.born ∈ ms.toList.map (·.born):=by rw [← hborn];exact List.mem_map_of_mem hm
       obtain ⟨m0,q1,q2⟩:=List.mem_map.1 this
       rw [← q2];exact m2.Ov m0 q1
      ·rw [F5 _ _ _ hil] at hj
       rw [F5 _ _ _ (by omega)] at hm
       by_cases hji:n=i
       ·rw [if_pos hji] at hj hm
        cases hj;cases hm
        exact ⟨rfl,hx⟩
       ·rw [if_neg hji] at hj hm
        exact p3 n e m hj hm
      ·refine Iu (k:=ms.toList) (l:=l) (fun e=>?_) (p4.imp (·.1) (fun h=>h)) hst' (by rw [hml];exact hp) (by rw [E1 _ _ _ (by omega),E1 _ _ _ hil,hll])
       rw [hml]
       subst e
       rw [ab1 m2.born p2 h5']
     obtain ⟨q1,q2,q3⟩:=Ng (P:=P) (ms':=ms.modify j fun e=>{ e with key:=key',val:=xv }) (c':=clock) hok hy hi hb0 m1 hrel' ⟨hh,hn⟩ hs
     refine ⟨_,g,?_,q2,q3,rfl⟩
     simp [Instr.mapUpdate,run_underlying hu,za m1,hck,h6,h5,hst,q1]
   ·rcases Bf m2 hf with ⟨_,h3⟩|⟨i',j,e',mm,l,h3,_⟩
    ·obtain ⟨l,p1,p2,p3⟩:=m2.perm
     have hll:l.length=es.length:=by rw [p1.length_eq,← m2.len];simp
     have hrel':rn g w (es++[(kv,x)]) (ms.push { key:=kv,val:=xv,born:=clock }) (clock+1):=by
      have hp:(l++[({ key:=kv,val:=xv,born:=clock }:MapEntry)]).Perm (ms.push { key:=kv,val:=xv,born:=clock }).toList:=by
       rw [Array.toList_push];exact p1.append_right _
      refine ⟨by simp [m2.len],?_,fun m hm=>?_,_,hp,fun n e m hj hm=>?_,?_⟩
      ·rw [Array.toList_push,List.map_append,List.nodup_append]
       refine ⟨m2.born,by simp,fun b hb b' hb'=>?_⟩
       obtain ⟨m,q1,rfl⟩:=List.mem_map.1 hb
       simp at hb'
       have:=m2.Ov m q1
       omega
      ·rw [Array.toList_push] at hm
       rcases List.mem_append.1 hm with hm|hm
       ·exact Nat.lt_succ_of_lt (m2.Ov m hm)
       ·simp at hm;subst hm;exact Nat.lt_succ_self _
      ·by_cases hjl:n<es.length
       ·rw [List.getElem?_append_left hjl] at hj
        rw [List.getElem?_append_left (by omega)] at hm
        exact p2 n e m hj hm
       ·rw [List.getElem?_append_right (by omega)] at hj hm
        have hj1:n=es.length:=by
         have:=(List.getElem?_eq_some_iff.1 hj).1;simp at this;omega
        subst hj1
        rw [hll] at hm
        simp at hj hm
        subst hj hm
        exact ⟨rfl,hx⟩
      ·exact Iu (k:=ms.toList) (l:=l) (fun e=>by rw [Array.toList_push,e]) p3 hst' hp (by simp [hll])
     obtain ⟨q1,q2,q3⟩:=Ng (P:=P) (ms':=ms.push { key:=kv,val:=xv,born:=clock }) (c':=clock+1) hok hy hi hb0 m1 hrel' ⟨hh,hn⟩ hs
     refine ⟨_,g,?_,q2,q3,rfl⟩
     simp [Instr.mapUpdate,run_underlying hu,za m1,hck,h3,q1]
    ·cases h3
  |_=>cases h
 |_=>cases h
theorem Zg {P:Program} {id:Nat} {kt:TypeId} {key:Value} {x:bh} {s st':St} {r:AV} (h:K8 P id kt key x s=some (r,st')) :
 ∃ es,x = .map es∧ev P (Instr.checkKey es.isEmpty 10000 kt key)=some ()∧r = .sc (.tuple #[]) ∧
  (
   (∃ i u,uh P kt key es=some (some i)∧stays es (es.take i++es.drop (i+1))=true∧po id (.map (es.take i++es.drop (i+1))) s=some (u,st')) ∨
   (∃ u,uh P kt key es=some none∧po id (.map es) s=some (u,st'))):=by
 cases x with
 |row=>cases h
 |loop=>cases h
 |map es=>
  refine ⟨es,rfl,?_⟩
  simp only [K8] at h
  cases hc:ev P (Instr.checkKey es.isEmpty 10000 kt key) with
  |none=>simp [hc,M.fail] at h
  |some u=>
  cases hf:uh P kt key es with
  |none=>simp [hc,hf,M.fail] at h
  |some q=>
  refine ⟨rfl,?_⟩
  cases q with
  |none=>
   simp only [hc,hf] at h
   obtain ⟨u,s1,h1,h2⟩:=bind_some h
   obtain ⟨rfl,rfl⟩:=cb h2
   exact ⟨rfl,.inr ⟨u,rfl,h1⟩⟩
  |some i=>
   simp only [hc,hf] at h
   rcases cd h with ⟨hs,h⟩|⟨_,h⟩
   ·obtain ⟨u,s1,h1,h2⟩:=bind_some h
    obtain ⟨rfl,rfl⟩:=cb h2
    exact ⟨rfl,.inl ⟨i,u,rfl,hs,h1⟩⟩
   ·cases h
theorem afn {P:Program} {g st st' w} {ts:Array TypeId} {ty:TypeId} {m k r:AV} {mv kv:Value} (hok:Ok g st.h w) (hm:Rel g w m mv) (hk:Rel g w k kv) (h:Qm P ((ts[0]?).bind P.underlying) m k st=some (r,st')) :
 cx P g st w (Builtin.delete_ ts ty #[mv,kv]) r st':=by
 unfold Qm at h
 cases h0:ts[0]? with
 |none=>simp [h0,M.fail] at h
 |some t=>
 rw [h0] at h
 simp only [Option.bind_some] at h
 cases hu:P.underlying t with
 |none=>simp [hu,M.fail] at h
 |some d=>
 rw [hu] at h
 cases d with
 |map kt et=>
  cases m with
  |mp id=>
   cases hkv:k.il with
   |none=>simp [hkv,M.fail] at h
   |some key=>
   simp only [hkv] at h
   have:=hk.exact hkv
   subst this
   obtain ⟨y,s1,h1,h2⟩:=bind_some h
   obtain ⟨hy,hh,hn⟩:=gj h1
   obtain ⟨es,rfl,hc,rfl,hr⟩:=Zg h2
   cases hm with
   |mp _ b base hi=>
   obtain ⟨b',base',hi',_,hrel⟩:=hok.obj id _ hy
   rw [hi] at hi';cases hi'
   obtain ⟨hb0,ms,clock,m1,m2⟩:=hrel
   have hck:=Bo _ _ w hc
   rw [← isEmpty_eq m2.len] at hck
   rcases hr with ⟨i,u,hf,hst',hs⟩|⟨u,hf,hs⟩
   ·rcases Bf m2 hf with ⟨h3,_⟩|⟨i',j,e',mm,l,h3,h4,h5,h6,p1,p2,p3,p4⟩
    ·cases h3
    ·cases h3
     have hil:i<es.length:=(List.getElem?_eq_some_iff.1 h4).1
     have hll:l.length=es.length:=by rw [p1.length_eq,← m2.len];simp
     have h5':ms.toList[j]? = some mm:=by simpa using h5
     have hjl:=(List.getElem?_eq_some_iff.1 h5').1
     have hms:j<ms.size:=by simpa using hjl
     have hE:ms.eraseIdxIfInBounds j=ms.eraseIdx j hms:=by simp [Array.eraseIdxIfInBounds,hms]
     have hml:(ms.eraseIdxIfInBounds j).toList=ms.toList.take j++ms.toList.drop (j+1):=by
      apply List.ext_getElem?
      intro n
      rw [hE,Array.getElem?_toList,Array.getElem?_eraseIdx,Wd _ _ hjl,Array.getElem?_toList,Array.getElem?_toList]
     have hsub:(ms.eraseIdxIfInBounds j).toList.Sublist ms.toList:=by
      rw [hml]
      have:=(List.drop_sublist_drop_left ms.toList (show j≤j+1 by omega)).append_left (ms.toList.take j)
      rwa [List.take_append_drop] at this
     have hrel':rn g w (es.take i++es.drop (i+1)) (ms.eraseIdxIfInBounds j) clock:=by
      have hp:=abj p1 p2 h5'
      refine ⟨?_,(hsub.map _).nodup m2.born,fun m hm=>m2.Ov m (hsub.subset hm),l.take i++l.drop (i+1),by rw [hml];exact hp,fun n e m hj hm=>?_,?_⟩
      ·have:=m2.len
       rw [hE,Array.size_eraseIdx];simp;omega
      ·rw [Wd _ _ hil] at hj
       rw [Wd _ _ (by omega)] at hm
       by_cases hji:n<i
       ·rw [if_pos hji] at hj hm
        exact p3 n e m hj hm
       ·rw [if_neg hji] at hj hm
        exact p3 (n+1) e m hj hm
      ·refine Iu (k:=ms.toList) (l:=l) (fun e=>?_) (p4.imp (·.1) (fun h=>h)) hst' (by rw [hml];exact hp) (by simp [hll])
       rw [hml]
       subst e
       rw [ab1 m2.born p2 h5']
     obtain ⟨q1,q2,q3⟩:=Ng (P:=P) (ms':=ms.eraseIdxIfInBounds j) (c':=clock) hok hy hi hb0 m1 hrel' ⟨hh,hn⟩ hs
     refine ⟨_,_,g,?_,q2,q3,.sc _⟩
     simp [Builtin.delete_,h0,run_underlying hu,za m1,hck,h6,q1]
   ·rcases Bf m2 hf with ⟨_,h3⟩|⟨i',j,e',mm,l,h3,_⟩
    ·obtain ⟨q1,q2,q3⟩:=Ng (P:=P) (ms':=ms) (c':=clock) hok hy hi hb0 m1 m2 ⟨hh,hn⟩ hs
     refine ⟨_,_,g,?_,q2,q3,.sc _⟩
     simp [Builtin.delete_,h0,run_underlying hu,za m1,hck,h3,q1]
    ·cases h3
  |_=>cases h
 |_=>cases h
theorem pa.unit {P g st w} [KP P] {s:Sem Unit} {r st'} (h:∃ w' g',s.run P w = .ok () w'∧Step g st.h w st.nx st'.nx g' st'.h w'∧Ok g' st'.h w'∧r = .sc undef):pa P g st w (do s;pure .skip) r st':=by
 obtain ⟨w',g',h1,h2,h3,h4⟩:=h
 exact ⟨.skip,w',g',by simp [h1],h2,h3,.inr ⟨rfl,h4⟩⟩
theorem l5.list {g w ρa ρ} (hρ:l5 g w ρa ρ) (l:List Operand):bm g w (l.map ρa) (l.map ρ):=
 ⟨by simp,fun i a v h1 h2=>by
  rw [List.getElem?_map] at h1 h2
  cases hl:l[i]? with
  |none=>rw [hl] at h1;cases h1
  |some x=>rw [hl] at h1 h2;simp at h1 h2;subst h1 h2;exact hρ x⟩
theorem aan {g w ρa ρ} (hρ:l5 g w ρa ρ) (parts:Array (Nat × Operand)) :
 (parts.toList.map fun p=>(p.1,ρa p.2)).length=(parts.map fun (i,x)=>(i,ρ x)).toList.length ∧
 ∀ (i:Nat) p q,(parts.toList.map fun p=>(p.1,ρa p.2))[i]? = some p→(parts.map fun (i,x)=>(i,ρ x)).toList[i]? = some q→p.1=q.1∧Rel g w p.2 q.2:=by
 refine ⟨by simp,fun i p q h1 h2=>?_⟩
 rw [List.getElem?_map] at h1
 rw [Array.toList_map,List.getElem?_map] at h2
 cases hl:parts.toList[i]? with
 |none=>rw [hl] at h1;cases h1
 |some x=>rw [hl] at h1 h2;simp at h1 h2;subst h1 h2;exact ⟨rfl,hρ x.2⟩
theorem Zq {g w ρa ρ} (hρ:l5 g w ρa ρ) {args:Array Operand} (h:l0 ρa args.toList=true):args.map (fun z=>((ρa z).il).getD undef)=args.map ρ:=by
 apply Array.ext'
 rw [Array.toList_map,Array.toList_map]
 exact List.map_congr_left fun x hx=>aed hρ h x hx
theorem aam {P:Program} [KP P] {g:Gh} {st st':St} {w:World} {ρa:Operand→AV} {ρ:Operand→Value} {o:Oper} {r:AV} {c:Call} {b:Builtin} (hc:c.callee = .builtin b) (ho:o.op = .call c) (hok:Ok g st.h w) (hf:lz g st st') (hρ:l5 g w ρa ρ)
 (h:Kp P ρa o b c.args.toList c.argTypes st=some (r,st')):pa P g st w (execOp ρ o) r st':=by
 have hex:∀ ρ:Operand→Value,execOp ρ o=builtin b c.argTypes o.type (c.args.map fun|.const _=>true|_=>false) (c.args.map ρ):=by
  intro ρ;simp [execOp,ho,resolve,hc,invoke];rfl
 have hargs:∀ l:List Operand,c.args.toList=l→c.args.map ρ=(l.map ρ).toArray:=by
  intro l hl;apply Array.ext';rw [Array.toList_map,hl]
 have pureCase:kx P ρa o c.args.toList st=some (r,st')→pa P g st w (execOp ρ o) r st':=by
  intro h
  by_cases he:l0 ρa c.args.toList=true
  ·exact uc hok hρ (.inl (by rw [hex,hex,Zq hρ he])) h
  ·exact uc hok hρ (.inr (by simpa using he)) h
 have one:∀ x,c.args.toList=[x]→c.args.map ρ = #[ρ x]:=fun x hx=>hargs _ hx
 have two:∀ x y,c.args.toList=[x,y]→c.args.map ρ = #[ρ x,ρ y]:=fun x y hx=>hargs _ hx
 generalize hal:c.args.toList=al at h
 unfold Kp at h
 split at h
 ·rename_i x;rw [hex,one _ hal];exact cx.value (P:=P) (arc hok (hρ x) h)
 ·rename_i s x;rw [hex,two _ _ hal];exact cx.value (P:=P) (afw hok hf (hρ s) (hρ x) h)
 ·rename_i d x;rw [hex,two _ _ hal];exact cx.value (P:=P) (aoa hok (hρ d) (hρ x) h)
 ·rename_i m k;rw [hex,two _ _ hal];exact cx.value (P:=P) (afn hok (hρ m) (hρ k) h)
 ·rename_i x;rw [hex,one _ hal];exact cx.value (P:=P) (ar7 hok (hρ x) h)
 ·rename_i x;rw [hex,one _ hal];exact cx.value (P:=P) (V2 hok (hρ x) h)
 ·rename_i x y;rw [hex,two _ _ hal];exact cx.value (P:=P) (Ny hok (hρ x) (hρ y) h)
 ·rw [← hal] at h;exact pureCase h
 ·rw [← hal] at h;exact pureCase h
 ·cases h
theorem aav {P:Program} [KP P] {g:Gh} {st st':St} {w:World} {ρa:Operand→AV} {ρ:Operand→Value} {o:Oper} {r:AV} (hok:Ok g st.h w) (hf:lz g st st') (hρ:l5 g w ρa ρ)
 (h:Ac P o ρa st=some (r,st')):pa P g st w (execOp ρ o) r st':=by
 unfold Ac at h
 cases ho:o.op with
 |move x=>
  rw [ho] at h
  obtain ⟨rfl,rfl⟩:=cb h
  exact ⟨_,_,g,by simp [execOp,ho],.refl _ _ _ _ _,hok,.inl ⟨_,rfl,hρ x⟩⟩
 |assign x=>
  rw [ho] at h
  obtain ⟨rfl,rfl⟩:=cb h
  exact ⟨_,_,g,by simp [execOp,ho],.refl _ _ _ _ _,hok,.inl ⟨_,rfl,hρ x⟩⟩
 |load t a=>rw [ho] at h;have:=cx.value (P:=P) (aqe hok (hρ a) h);simpa [execOp,ho] using this
 |fieldAddr s x f=>rw [ho] at h;have:=cx.value (P:=P) (V3 hok (hρ x) h);simpa [execOp,ho] using this
 |binOp op t x y ck=>
  rw [ho] at h
  exact as1 hok hρ (by simp [execOp,ho]) (fun h1 h2=>by simp [execOp,ho,yw hρ h1,yw hρ h2]) h
 |pick c a b=>rw [ho] at h;have:=cx.value (P:=P) (ao6 hok (hρ c) (hρ a) (hρ b) h);simpa [execOp,ho] using this
 |store t a x=>rw [ho] at h;have:=pa.unit (P:=P) (aju hok (hρ a) (hρ x) h);simpa [execOp,ho] using this
 |extract t ix=>rw [ho] at h;have:=cx.value (P:=P) (acx hok (hρ t) h);simpa [execOp,ho] using this
 |indexAddr t x ix=>rw [ho] at h;have:=cx.value (P:=P) (Vk hok (hρ x) (hρ ix) h);simpa [execOp,ho] using this
 |nilCheck x=>rw [ho] at h;exact Zl hok hρ ho h
 |alloc t=>rw [ho] at h;have:=cx.value (P:=P) (akw hok hf h);simpa [execOp,ho] using this
 |box t x=>rw [ho] at h;have:=cx.value (P:=P) (ab3 hok hf (hρ x) h);simpa [execOp,ho] using this
 |build t parts=>rw [ho] at h;have hp:=aan hρ parts;have:=cx.value (P:=P) (ajn hok hp.1 hp.2 h);simpa [execOp,ho] using this
 |buildSlice t len parts=>rw [ho] at h;have hp:=aan hρ parts;have:=cx.value (P:=P) (S7 hok hf hp.1 hp.2 h);simpa [execOp,ho] using this
 |makeSlice t l c=>rw [ho] at h;have:=cx.value (P:=P) (U8 hok hf (hρ l) (hρ c) h);simpa [execOp,ho] using this
 |makeMap t ro=>rw [ho] at h;have:=cx.value (P:=P) (adg (t:=t) (rv:=ro.map ρ) (fun e=>by rw [e];rfl) hok hf h);simpa [execOp,ho] using this
 |makeFunc f first captured=>
  rw [ho] at h
  obtain ⟨rfl,rfl⟩:=cb h
  have h1:=hρ.list first.toList
  have h2:=hρ.list captured.toList
  have:=cx.value (P:=P) (cx.still hok rfl (s:=Instr.makeFunc f (first.map ρ) (captured.map ρ)) rfl
   (Rel.fn f (first.toList.map ρa) (captured.toList.map ρa) (first.map ρ) (captured.map ρ) (by simp) (fun i a v q1 q2=>h1.2 i a v q1 (by rw [← Array.toList_map,Array.getElem?_toList];exact q2)) (by simp) (fun i a v q1 q2=>h2.2 i a v q1 (by rw [← Array.toList_map,Array.getElem?_toList];exact q2))))
  simpa [execOp,ho] using this
 |convert src dst x=>rw [ho] at h;exact aeg hok hf hρ ho h
 |makeInterface t x=>rw [ho] at h;have:=cx.value (P:=P) (Lo hok (hρ x) h);simpa [execOp,ho] using this
 |field s x f=>rw [ho] at h;have:=cx.value (P:=P) (aje hok (hρ x) h);simpa [execOp,ho] using this
 |index t x ix=>rw [ho] at h;exact ak5 hok hρ ho h
 |slice t x lo hi mx=>
  rw [ho] at h
  have hex:∀ ρ:Operand→Value,execOp ρ o=(do pure (.value (← Instr.sliceAt t (ρ x) (lo.map ρ) (hi.map ρ) (mx.map ρ)))):=by intro ρ;simp [execOp,ho]
  rw [hex]
  refine cx.value (P:=P) (ala hok hρ ho (fun r' hp=>?_) h)
  by_cases he:l0 ρa (.slice t x lo hi mx:Op).operands.toList=true
  ·have hx:=aed hρ he
   have hmem:∀ y,(y=x∨lo=some y∨hi=some y∨mx=some y)→((ρa y).il).getD undef = ρ y:=fun y hy=>hx y (by
    rcases hy with rfl|rfl|rfl|rfl<;>simp [Op.operands])
   have ho':∀ q:Option Operand,(∀ y,q=some y→((ρa y).il).getD undef = ρ y)→q.map (fun z=>((ρa z).il).getD undef)=q.map ρ:=by
    intro q hq;cases q with
    |none=>rfl
    |some y=>simp [hq y rfl]
   have heq:execOp (fun z=>((ρa z).il).getD undef) o=execOp ρ o:=by
    rw [hex,hex,hmem x (.inl rfl),ho' lo (fun y e=>hmem y (.inr (.inl e))),ho' hi (fun y e=>hmem y (.inr (.inr (.inl e)))),ho' mx (fun y e=>hmem y (.inr (.inr (.inr e))))]
   obtain ⟨rfl,h1⟩:=Xb (P:=P) hρ (.inl heq) hp
   rw [hex] at h1
   cases hs:(Instr.sliceAt t (ρ x) (lo.map ρ) (hi.map ρ) (mx.map ρ)).run P w with
   |ok v w'=>
    rcases h1 with ⟨u,h2,rfl⟩|⟨h2,_⟩
    ·simp [hs] at h2
     obtain ⟨rfl,rfl⟩:=h2
     exact cx.still hok rfl hs (.sc _)
    ·simp [hs] at h2
   |_=>rcases h1 with ⟨u,h2,_⟩|⟨h2,_⟩<;>simp [hs] at h2
  ·rw [kx,show l0 ρa (.slice t x lo hi mx:Op).operands.toList=false from by simpa using he] at hp
   cases hp
 |lookup t x ix ok=>rw [ho] at h;have:=cx.value (P:=P) (agw hok (hρ x) (hρ ix) h);simpa [execOp,ho] using this
 |mapUpdate t m k x=>rw [ho] at h;have:=pa.unit (P:=P) (Oo hok (hρ m) (hρ k) (hρ x) h);simpa [execOp,ho] using this
 |insert t m k x=>rw [ho] at h;have:=pa.unit (P:=P) (Oo hok (hρ m) (hρ k) (hρ x) h);simpa [execOp,ho] using this
 |typeAssert x xT asserted ok=>rw [ho] at h;exact Sn hok hρ ho h
 |unOp op t x=>
  rw [ho] at h
  by_cases he:l0 ρa [x]=true
  ·refine uc hok hρ (.inl ?_) h
   simp only [l0,List.all_cons,List.all_nil,Bool.and_true] at he
   simp [execOp,ho,yw hρ he]
  ·exact uc hok hρ (.inr (by simpa using he)) h
 |call c=>
  rw [ho] at h
  obtain ⟨callee,args,argTypes⟩:=c
  cases callee with
  |builtin b=>exact aam rfl ho hok hf hρ h
  |_=>cases h
 |_=>rw [ho] at h;cases h
def eh (ro:Option Nat):Fence:={ Fence.wide with round:=ro }
theorem Jl {ro ro':Option Nat} {n m:Nat} {P:Program} [KP P] {f:FuncId} {args:Array Value} {w:World} {R:Ending→World→Prop} (h:CallsIn (eh ro) n P f args w R):CallsIn (eh ro') m P f args w R:=
 ⟨trivial,fun cs _=>h.2 cs (fun d hd=>by cases hd)⟩
theorem ni {ro:Option Nat} {n:Nat} {P:Program} [KP P] {f:FuncId} {args:Array Value} {w:World} {R:Ending→World→Prop} (h:Calls P f args w R):CallsIn (eh ro) n P f args w R:=
 Jl (ro:=none) (n:=0) (callsIn_wide.2 h)
theorem ti {ro:Option Nat} {n:Nat} {P:Program} [KP P] {f:FuncId} {args:Array Value} {w:World} {R:Ending→World→Prop} (h:CallsIn (eh ro) n P f args w R):Calls P f args w R:=
 (callsIn_wide (n:=0)).1 (Jl (ro':=none) h)
theorem put_defers (a:Act) (dst:Option Tmp) (v:Value):(a.put dst v).defers=a.defers:=by cases dst<;>rfl
structure Stp (g:Gh) (st:St) (w:World) (g':Gh) (st':St) (w':World):Prop where
 le:st.nx≤st'.nx
 step:Step g st.h w st.nx st'.nx g' st'.h w'
theorem rq {α:Type} {m:M α} {s:St} {r : α × St} (h:mono m s=some r):m s=some r∧s.nx≤r.2.nx:=by
 unfold mono at h
 cases hm:m s with
 |none=>rw [hm] at h;cases h
 |some p=>
  obtain ⟨a,s'⟩:=p
  rw [hm] at h
  simp only at h
  cases hb:Nat.ble s.nx s'.nx with
  |false=>rw [hb] at h;cases h
  |true=>rw [hb] at h;cases h;exact ⟨rfl,Nat.le_of_ble_eq_true hb⟩
theorem ajd {P:Program} [KP P] {g st st' w t a v r ad} (hok:Ok g st.h w) (ha:Rel g w a v) (h:qv P t a st=some (r,st')) (hv:v = .pointer (some ad)):∃ u,(loadVar t ad).run P w = .ok u w∧Rel g w r u:=by
 unfold qv at h
 cases ha with
 |ptr o off b base hi=>
  cases hv
  obtain ⟨x,s1,hx,h⟩:=bind_some h
  obtain ⟨hx,hh,hn⟩:=gj hx
  obtain ⟨b',base',hi',_,hrel⟩:=hok.obj o x hx
  rw [hi] at hi';cases hi'
  cases x with
  |row cells k s et=>
   obtain ⟨hof,_⟩:=qi h
   obtain ⟨cs,fr,h1,h2,h3,_⟩:=hrel
   exact Dc (P:=P) (g:=g) (w:=w) (b:=b) (off:=base+off) (fun j a hj=>by
    rw [List.getElem?_drop] at hj
    obtain ⟨c,hc,hr⟩:=h3 _ a hj
    exact ⟨c,by rw [ku h1,Nat.add_assoc];exact hc,hr⟩) hof
  |map es=>cases h
  |loop=>cases h
 |dj l b off c hc hr=>
  cases hv
  obtain ⟨hof,e⟩:=qi h
  exact Dc (P:=P) (fun j a hj=>⟨c j,(hc j a hj).2,hr j a hj⟩) hof
 |_=>exact (Yc h).elim
def rm (tmps:Array Value) (r:ResultVar):Sem Value:=
 match r with
 |.tmp t=>pure (tmps.getD t undef)
 |.cell a t=>do loadVar t (← asAddr (tmps.getD a undef))
theorem Uj (fn:Func) (tmps:Array Value):results fn tmps=(do
 let vs ← fn.results.mapM (rm tmps)
 pure (if h:vs.size=1 then vs[0] else .tuple vs)):=rfl
def ir (g:Gh) (h:Tr bh) (b:Nat):Prop:=∀ o base,(h.get o).isSome=true→g.inj o≠some (b,base)
theorem ir.step {g h w lo hi g' h' w' b} (s:Step g h w lo hi g' h' w') (hb:b<w.heap.size) (hu:ir g h b):ir g' h' b∧w'.heap[b]? = w.heap[b]? :=
 ⟨fun o base ho hj=>by
  rcases s.own o b base ho hj with hge|⟨o',base',ho',hj'⟩
  ·omega
  ·exact hu o' base' ho' hj',s.frame b hb hu⟩
def mark (b:Nat):Deferred:={ target:=.collected b,args:=#[] }
def Marks (D:List Deferred) (n0:Nat) (h:Tr bh) (g:Gh) (w:World) (ds:List Deferred):Prop:=
 ∃ bs:List Nat,ds=bs.map mark++D∧bs.Nodup∧∀ b ∈ bs,n0≤b∧w.heap[b]? = some (.deferred (some []))∧ir g h b
theorem Marks.nil (n0 h g w):Marks [] n0 h g w []:=⟨[],rfl,List.nodup_nil,fun b hb=>by cases hb⟩
theorem Marks.start (D:List Deferred) (n0 h g w):Marks D n0 h g w D:=⟨[],rfl,List.nodup_nil,fun b hb=>by cases hb⟩
theorem Marks.step {D n0 g h w lo hi g' h' w' ds} (s:Step g h w lo hi g' h' w') (hm:Marks D n0 h g w ds):Marks D n0 h' g' w' ds:=by
 obtain ⟨bs,h1,h2,h3⟩:=hm
 refine ⟨bs,h1,h2,fun b hb=>?_⟩
 obtain ⟨q1,q2,q3⟩:=h3 b hb
 have:=ir.step s (br q2) q3
 exact ⟨q1,this.2.trans q2,this.1⟩
theorem Ok.Gp {g h w b} {ds ds':Option (List Deferred)} (hok:Ok g h w) (hb:w.heap[b]? = some (.deferred ds)) (hu:ir g h b):Ok g h (gp w b (.deferred ds'))∧(∀ a v,Rel g w a v→Rel g (gp w b (.deferred ds')) a v):=by
 have hext:Ext g w g (gp w b (.deferred ds')):=by
  refine ⟨rfl,fun _ _ h=>h,fun _ _ h=>h,fun c j hj=>?_,fun c cs e fr hc=>?_,fun c l hc=>?_,fun c cs e fr hc _=>ec w (.deferred ds') (by intro e;subst e;rw [hb] at hc;cases hc)⟩
  ·by_cases e:c=b
   ·subst e
    simp [World.cell?,ia _ (br hb),hb]
   ·exact nr (ec w (.deferred ds') e)
  ·exact ⟨cs,fr,(ec w (.deferred ds') (by intro e;subst e;rw [hb] at hc;cases hc)).trans hc,rfl⟩
  ·exact ⟨l,(ec w (.deferred ds') (by intro e;subst e;rw [hb] at hc;cases hc)).trans hc⟩
 refine ⟨⟨by rw [lg];exact hok.size,fun o x hx=>?_,hok.sep,fun c j hj=>by rw [lg];exact hok.K c j hj⟩,fun a v h=>h.ext hext⟩
 refine (hok.qg o x hx).imp id ?_
 rintro ⟨c,base,h1,h2,h3⟩
 exact ⟨c,base,h1,h2,h3.ext hext (ec w (.deferred ds') (fun e=>hu o base (by rw [hx];rfl) (by rw [← e];exact h1))) (fun _ h=>h)⟩
theorem Step.arb {g0 h0 w0 lo hi g h w b ds'} (hok0:Ok g0 h0 w0) (s:Step g0 h0 w0 lo hi g h w) (hb:w0.heap.size≤b):Step g0 h0 w0 lo hi g h (gp w b (.deferred ds')):=by
 have ne:∀ c,c<w0.heap.size→c≠b:=fun c hc e=>by omega
 refine ⟨⟨s.ext.b0,s.ext.inj,s.ext.K,fun c j hj=>?_,fun c cs e fr hc=>?_,fun c l hc=>?_,fun c cs e fr hc hK=>(ec w _ (ne c (br hc))).trans (s.ext.whole c cs e fr hc hK)⟩,by rw [lg];exact s.size,s.os,s.tape,s.output,fun c hc hn=>?_,s.fresh,s.own,s.oj⟩
 ·rw [nr (ec w _ (ne c (hok0.K c j hj)))];exact s.ext.cell c j hj
 ·rw [ec w _ (ne c (br hc))];exact s.ext.sg c cs e fr hc
 ·rw [ec w _ (ne c (br hc))];exact s.ext.lp c l hc
 ·rw [ec w _ (ne c hc)];exact s.frame c hc hn
def sh:Ex→Exit
 |.normal=>.normal
 |.exit id=>.exit id
 |.ret=>.ret
theorem oz {P:Program} [KP P] {f:Nat} (h:l8 P f=true) (args:Array Value) (w:World):(callFunc f args).run P w = .ok (.enter f args) w:=by
 unfold l8 at h
 cases hf:P.funcs[f]? with
 |none=>rw [hf] at h;cases h
 |some fn=>
  rw [hf] at h
  simp only [Bool.and_eq_true,Bool.not_eq_true'] at h
  obtain ⟨h1,h2⟩:=h
  have hb:¬ fn.body=none:=by intro e;rw [e] at h1;cases h1
  have hn:¬ fn.name = "runtime.NumGoroutine" := by simpa using h2
  simp [callFunc,program,Sem.run,hf,hn,hb]
theorem Fq {o:Oper} {c:Call} (h:o.op = .call c):∀ d,o.op ≠ .defer d:=by intro d e;rw [h] at e;cases e
theorem i4 (ro:Option Nat) (P:Program) (o:Oper) (a:Act) (w:World):∀ f,o.about P w a.eval=some f→(eh ro).fn f:=fun _ _=>trivial
theorem Aq {P:Program} [KP P] {o:Oper} {f:Operand} {args:Array Operand} {ts:Array TypeId} {ρ:Operand→Value} {h:Nat} {first captured:Array Value} (ho:o.op = .call { callee:=.value f,args,argTypes:=ts })
 (hf : ρ f = .func (.func h) first captured) (w:World):(execOp ρ o).run P w=(callFunc h (first++args.map ρ++captured)).run P w:=by
 simp [execOp,ho,resolve,hf,Deferred.ofValue,invoke]
end Go.Vm
namespace Go.Vm
variable [TK]
noncomputable section
abbrev SL:=List (Nat × AV)
noncomputable def lk (L:SL) (t:Nat):AV:=List.rec (motive:=fun _=>AV) .bad (fun p _ ih=>Bool.rec (motive:=fun _=>AV) ih p.2 (Nat.beq p.1 t)) L
def dh (L:SL) (x:Operand):AV:=
 Operand.rec (motive:=fun _=>AV) (fun t=>lk L t) (fun v=>.sc v) (fun g=>.sc (.pointer (some ⟨g,0,none⟩))) (fun f=>.sc (.func (.func f) #[] #[])) x
abbrev QL:=Ex→SL→St→Prop
def jl (d:Option Tmp) (v:AV) (L:SL):SL:=
 match d with
 |none=>L
 |some d=>(d,v)::L
abbrev dv:=List (Nat × Bool × (List AV→M AV))
def dv.find:dv→Nat→Option (Bool × (List AV→M AV))
 | [],_=>none
 |(g,m)::r,f=>bif Nat.beq g f then some m else dv.find r f
def uk (T:dv) (f:Nat) (args:List AV):M AV:=
 match T.find f with
 |some (_,m)=>mono (m args)
 |none=>.fail
def abn (T:dv) (g:Fn) (args:List AV):M AV:=
 match g with
 |.func g=>uk T g args
 |_=>.fail
def vr (T:dv) (f:AV) (args:List AV):M AV:=
 match f with
 |.fn g first captured=>abn T g (first++args++captured)
 |.sc x=>
  match x with
  |.func g first captured=>abn T g (first.toList.map .sc++args++captured.toList.map .sc)
  |_=>.fail
 |_=>.fail
def fo (P:Program) (T:dv) (o:Oper) (ρ:Operand→AV):M AV:=
 match o.op with
 |.call { callee:=.value f,args,.. }=>vr T (ρ f) (args.toList.map ρ)
 |_=>mono (Ac P o ρ)
def G9 (r:Option (AV × St)) (d:Option Tmp) (L:SL) (K:SL→St→Prop):Prop:=
 match r with
 |some (v,st)=>K (jl d v L) st
 |none=>False
def pz (a:AV) (x y:Prop):Prop:=
 match a.bool with
 |some v=>(v=true→x)∧(v=false→y)
 |none=>False
def tn (ops:Array Oper) (j:Nat):Nat:=((ops[j]?).bind (·.dst)).getD 0
def E3 (c:Bool) (v:Value):Bool:=
 match v with
 |.bool b=>b == c
 |_=>false
def B0 (a:AV) (c:Bool):Option Bool:=a.exact.map (E3 c)
def zx (o:Option Bool) (x y:Prop):Prop:=
 match o with
 |some b=>(b=true→x)∧(b=false→y)
 |none=>False
def guarded (ops:Array Oper) (L:SL) (gd:Option (Nat × Bool)) (x y:Prop):Prop:=
 match gd with
 |none=>x
 |some (j,c)=>zx (B0 (lk L (tn ops j)) c) x y
def ug (a:AV) (X Y:SL→St→Prop) (L:SL) (st:St):Prop:=pz a (X L st) (Y L st)
def Ea (a:AV) (c:Bool) (X Y:SL→St→Prop) (L:SL) (st:St):Prop:=zx (B0 a c) (X L st) (Y L st)
def xi (ops:Array Oper) (gd:Option (Nat × Bool)) (X Y:SL→St→Prop) (L:SL) (st:St):Prop:=guarded ops L gd (X L st) (Y L st)
def We (f:AV) (args:List AV):Option (Nat × List AV):=
 match f with
 |.fn g first captured=>
  match g with
  |.func g=>some (g,first++args++captured)
  |_=>none
 |.sc x=>
  match x with
  |.func g first captured=>
   match g with
   |.func g=>some (g,first.toList.map .sc++args++captured.toList.map .sc)
   |_=>none
  |_=>none
 |_=>none
def zt (P:Program) (f:Nat) (args:List AV) (st:St) (R:AV→St→Prop):Prop:=
 ∀ (g:Gh) (w:World) (vs:List Value),Ok g st.h w→(∀ o,st.nx≤o→g.inj o=none)→bm g w args vs →
  (∃ v w' g' r st',(callFunc f vs.toArray).run P w = .ok (.value v) w'∧R r st'∧st.nx≤st'.nx∧Step g st.h w st.nx st'.nx g' st'.h w'∧Ok g' st'.h w'∧Rel g' w' r v) ∨
  ((
   callFunc f vs.toArray).run P w = .ok (.enter f vs.toArray) w ∧
   Calls P f vs.toArray w (fun e w'=>∃ v g' r st',e = .returned v∧R r st'∧st.nx≤st'.nx∧Step g st.h w st.nx st'.nx g' st'.h w'∧Ok g' st'.h w'∧Rel g' w' r v))
def i5 (K:SL→St→Prop) (d:Option Tmp) (L:SL):AV→St→Prop:=fun r st=>K (jl d r L) st
def al0 (P:Program) (c:Option (Nat × List AV)) (d:Option Tmp) (L:SL) (st:St) (K:SL→St→Prop):Prop:=
 match c with
 |some (f,args)=>zt P f args st (i5 K d L)
 |none=>False
def Na (P:Program) (o:Oper) (L:SL) (st:St) (K:SL→St→Prop):Prop:=
 match o.op with
 |.call { callee:=.value f,args,.. }=>al0 P (We (dh L f) (args.toList.map (dh L))) o.dst L st K
 |_=>False
def yr (r:Option (AV × St)) (P:Program) (o:Oper) (L:SL) (st:St) (K:SL→St→Prop):Prop:=
 match r with
 |some (v,st')=>K (jl o.dst v L) st'
 |none=>Na P o L st K
def I6 (P:Program) (T:dv) (o:Oper) (K:SL→St→Prop) (L:SL) (st:St):Prop:=yr (fo P T o (dh L) st) P o L st K
def Hj (d:Option Tmp) (K:SL→St→Prop) (L:SL) (st:St):Prop:=K (jl d (.sc undef) L) st
def opsL (P:Program) (T:dv) (ops:Array Oper):List Oper→(SL→St→Prop)→SL→St→Prop
 | [],K=>K
 |o::r,K=>xi ops o.guard (I6 P T o (opsL P T ops r K)) (Hj o.dst (opsL P T ops r K))
def AV.names:AV→List Nat
 |.agg l=>go l
 |.gi l=>go l
 |.sl o _ _ _=>[o]
 |.ptr o _=>[o]
 |.fn _ a b=>go a++go b
 |.mp o=>[o]
 |.qe _ v=>v.names
 |.yl o=>[o]
 |_=>[]
where go:List AV→List Nat
 | []=>[]
 |a::r=>a.names++go r
def bh.names:bh→List Nat
 |.row cells _ _ _=>AV.names.go cells
 |.map es=>AV.names.go (es.map (·.2))
 |.loop .. => []
def reach (h:Tr bh):Nat→List Nat→List Nat→List Nat
 |0,_,acc=>acc
 |_+1,[],acc=>acc
 |n+1,o::r,acc=>
  bif acc.contains o then reach h n r acc
  else
   match h.get o with
   |some x=>reach h n (x.names++r) (acc++[o])
   |none=>reach h n r acc
def qc (h:Tr bh):List Nat→Tr bh
 | []=>.nil
 |o::r=>Tr.set depth (qc h r) o (h.get o)
def tv (h1:Tr bh):List Nat→Tr bh→Tr bh
 | [],h=>h
 |o::r,h=>Tr.set depth (tv h1 r h) o (h1.get o)
def dw (lo:Nat):Nat→List Nat
 |0=>[]
 |n+1=>lo::dw (lo+1) n
structure Rec where
 R:List Nat
 W:List Nat
def rk (T:dv) (ρ:Operand→AV) (o:Oper):Bool:=
 match o.op with
 |.store .. | .mapUpdate .. | .insert .. => false
 |.call { callee:=.builtin b,.. }=>
  match b with
  |.append|.copy|.delete|.unsafeString=>false
  |_=>true
 |.call { callee:=.value f,.. }=>
  match ρ f with
  |.fn (.func g) _ _=>match T.find g with|some (b,_)=>b|none=>false
  |.sc (.func (.func g) _ _)=>match T.find g with|some (b,_)=>b|none=>false
  |_=>false
 |_=>true
def db (o:Oper) (L:SL):Operand→AV
 |.tmp t=>bif o.op.operands.any (fun x=>match x with|.tmp u=>Nat.beq u t|_=>false) then lk L t else .bad
 |.const v=>.sc v
 |.global g=>.sc (.pointer (some ⟨g,0,none⟩))
 |.func f=>.sc (.func (.func f) #[] #[])
def same (h h':Tr bh):List Nat→Prop
 | []=>True
 |o::r=>h.get o=h'.get o∧same h h' r
def Bg (o:Nat) (l:List Nat):Bool:=List.rec (motive:=fun _=>Bool) false (fun x _ ih=>Bool.rec (motive:=fun _=>Bool) ih true (Nat.beq x o)) l
def sm (a b:List Nat):Bool:=List.rec (motive:=fun _=>Bool) true (fun _ _ _=>List.rec (motive:=fun _=>Bool) true (fun x _ ih=>Bool.rec (motive:=fun _=>Bool) ih false (Bg x b)) a) b
theorem xf (o:Nat):∀ l:List Nat,Bg o l=true↔o ∈ l
 | []=>by simp [Bg]
 |x::l=>by
  show (Bool.rec _ _ (Nat.beq x o):Bool)=true↔_
  have ih:=xf o l
  cases hb:Nat.beq x o with
  |true=>have:=Nat.eq_of_beq_eq_true hb;subst this;simp
  |false=>
   have:x≠o:=fun e=>by subst e;simp at hb
   show Bg o l=true↔_
   rw [ih,List.mem_cons]
   exact ⟨.inr,fun h=>h.resolve_left (fun e=>this e.symm)⟩
theorem alf (a b:List Nat):sm a b=true↔∀ o ∈ a,o ∉ b:=by
 cases b with
 |nil=>simp [sm]
 |cons y b=>
  show (List.rec (motive:=fun _=>Bool) true (fun x _ ih=>Bool.rec (motive:=fun _=>Bool) ih false (Bg x (y::b))) a:Bool)=true↔_
  generalize y::b=l
  induction a with
  |nil=>simp
  |cons x a ih=>
   show (Bool.rec _ _ (Bg x l):Bool)=true↔_
   cases hb:Bg x l with
   |true=>
    have:=(xf x l).1 hb
    simp [this]
   |false=>
    have hn:x ∉ l:=fun h=>by rw [(xf x l).2 h] at hb;cases hb
    show (List.rec _ _ a:Bool)=true↔_
    rw [ih]
    simp [hn]
def Ip (before:Array Nat) (i j:Nat) (a b:Rec):Bool:=(sm a.W b.R && sm a.W b.W && sm a.R b.W) || (before.getD j 0).testBit i
def Mv (before:Array Nat) (i:Nat) (a:Rec):Nat→List Rec→Bool
 |_,[]=>true
 |j,b::r=>Ip before i j a b && Mv before i a (j+1) r
def iz (before:Array Nat):Nat→List Rec→Bool
 |_,[]=>true
 |i,a::r=>Mv before i a (i+1) r && iz before (i+1) r
def zp (ops:Array Oper) (o:Oper):List Nat:=
 o.dst.toList++(o.op.operands.toList.filterMap fun x=>match x with|.tmp u=>some u|_=>none)++(match o.guard with|some (j,_)=>[tn ops j]|none=>[])
def Ke (ops:Array Oper):Bool:=
 ops.toList.zipIdx.all (fun q=>(zp ops q.1).all fun t=>ops.toList.zipIdx.all fun p=>(match p.1.dst with|some d=>!(Nat.beq d t)|none=>true) || Nat.beq p.2 q.2 || ((Region.before ops).getD (max p.2 q.2) 0).testBit (min p.2 q.2)) &&
 ops.toList.zipIdx.all (fun q=>q.1.after.all fun e=>!(Region.binds .any e) || Nat.blt e.on q.2)
def fk:Nat:=60
def jn (o:Op):Bool:=
 match o with
 |.move _=>true
 |.assign _=>true
 |.fieldAddr .. => true
 |.nilCheck _=>true
 |.pick .. => true
 |.extract .. => true
 |.indexAddr .. => true
 |.binOp .. => true
 |.call { callee:=.builtin .len,.. }=>true
 |_=>false
def mc (o:Oper) (L:SL) (st:St):List Nat:=
 bif jn o.op then [] else
 match o.op with
 |.load _ a=>(db o L a).names
 |.store _ a _=>(db o L a).names
 |_=>reach st.h fk (AV.names.go (o.op.operands.toList.map (db o L))) []
def Zy (P:Program) (T:dv) (o:Oper) (recs:List Rec) (K:List Rec→SL→St→Prop) (L:SL) (st:St):Prop:=
 ∃ (F W:List Nat) (v:AV) (fl:St),fo P T o (db o L) { h:=qc st.h F,nx:=st.nx,rl:=[],wl:=[] }=some (v,fl)∧(∀ q ∈ W,q ∈ F)∧(∀ q ∈ F,q ∉ W→(qc st.h F).get q=fl.h.get q)∧(∀ q ∈ F,q<st.nx)∧fl.nx≤di ∧
  K (recs++[⟨F,W++dw st.nx (fl.nx - st.nx)⟩]) (jl o.dst v L) { h:=tv fl.h (F++dw st.nx (fl.nx - st.nx)) st.h,nx:=fl.nx,rl:=[],wl:=[] }
def Fc (n:Nat):List Nat→Bool
 | []=>true
 |o::r=>Nat.blt o n && Fc n r
def Ec (ro:Bool) (F:List Nat) (o:Oper) (recs:List Rec) (K:List Rec→SL→St→Prop) (L:SL) (st:St) (r:Option (AV × St)):Prop:=
 match r with
 |some (v,fl)=>(Fc st.nx F=true∧Nat.ble fl.nx di=true)∧same (qc st.h F) fl.h (bif ro then F else []) ∧
  K (recs++[⟨F,(bif ro then [] else F)++dw st.nx (fl.nx - st.nx)⟩]) (jl o.dst v L) { h:=tv fl.h (F++dw st.nx (fl.nx - st.nx)) st.h,nx:=fl.nx,rl:=[],wl:=[] }
 |none=>False
def ky (P:Program) (T:dv) (o:Oper) (recs:List Rec) (K:List Rec→SL→St→Prop) (L:SL) (st:St) (F:List Nat):Prop:=
 Ec (rk T (db o L) o) F o recs K L st (fo P T o (db o L) { h:=qc st.h F,nx:=st.nx,rl:=[],wl:=[] })
def gg (P:Program) (T:dv) (o:Oper) (recs:List Rec) (K:List Rec→SL→St→Prop) (L:SL) (st:St):Prop:=ky P T o recs K L st (mc o L st)
theorem Z6 {n:Nat}:∀ {l:List Nat},Fc n l=true→∀ q ∈ l,q<n
 | [],_,q,hq=>by cases hq
 |o::r,h,q,hq=>by
  simp only [Fc,Bool.and_eq_true] at h
  rcases List.mem_cons.1 hq with rfl|hq
  ·simpa using h.1
  ·exact Z6 h.2 q hq
theorem ahu {h h':Tr bh}:∀ {l:List Nat},same h h' l→∀ q ∈ l,h.get q=h'.get q
 | [],_,q,hq=>by cases hq
 |o::r,hs,q,hq=>by
  rcases List.mem_cons.1 hq with rfl|hq
  ·exact hs.1
  ·exact ahu hs.2 q hq
theorem awz {P:Program} {T:dv} {o:Oper} {recs:List Rec} {K:List Rec→SL→St→Prop} {L:SL} {st:St} (h:gg P T o recs K L st):Zy P T o recs K L st:=by
 unfold gg ky Ec at h
 split at h
 ·rename_i v fl he
  obtain ⟨⟨h1,h2⟩,h3,h4⟩:=h
  refine ⟨_,_,v,fl,he,?_,?_,Z6 h1,Nat.le_of_ble_eq_true h2,h4⟩
  ·intro q hq
   cases hb:rk T (db o L) o with
   |true=>rw [hb] at hq;cases hq
   |false=>rw [hb] at hq;exact hq
  ·intro q hq hn
   cases hb:rk T (db o L) o with
   |true=>rw [hb] at h3;exact ahu h3 q hq
   |false=>rw [hb] at hn;exact (hn hq).elim
 ·exact h.elim
def an0 (ops:Array Oper) (K:SL→St→Prop) (recs:List Rec) (L:SL) (st:St):Prop:=iz (Region.before ops) 0 recs=true∧K L st
def Ej (P:Program) (T:dv) (ops:Array Oper):List Oper→(SL→St→Prop)→List Rec→SL→St→Prop
 | [],K=>an0 ops K
 |o::r,K=>fun recs=>xi ops o.guard (gg P T o recs (Ej P T ops r K)) (Hj o.dst (Ej P T ops r K (recs++[⟨[],[]⟩])))
def J3 (P:Program) (T:dv) (ops:Array Oper):List Oper→(SL→St→Prop)→List Rec→SL→St→Prop
 | [],K=>an0 ops K
 |o::r,K=>fun recs=>xi ops o.guard (Zy P T o recs (J3 P T ops r K)) (Hj o.dst (J3 P T ops r K (recs++[⟨[],[]⟩])))
def Dv (P:Program) (T:dv) (ops:Array Oper) (draw:Bool) (K:SL→St→Prop) (L:SL) (st:St):Prop:=
 match draw with
 |true=>Ke ops=true∧(Ej P T ops ops.toList K [] L st∨J3 P T ops ops.toList K [] L st)
 |false=>opsL P T ops ops.toList K L st
def idx (l:List Nat) (o:Nat):Nat→Option Nat:=
 List.rec (motive:=fun _=>Nat→Option Nat) (fun _=>none) (fun a _ ih i=>bif Nat.beq a o then some i else ih (i+1)) l
def AV.dm (τ:Nat→Option Nat):AV→AV
 |.agg l=>.agg (go τ l)
 |.gi l=>.gi (go τ l)
 |.vl loc sz es=>.vl loc sz (go τ es)
 |.sl o off len sz=>match τ o with|some p=>.sl p off len sz|none=>.bad
 |.ptr o off=>match τ o with|some p=>.ptr p off|none=>.bad
 |.dj l=>.dj (go τ l)
 |.fn f a b=>.fn f (go τ a) (go τ b)
 |.mp o=>match τ o with|some p=>.mp p|none=>.bad
 |.qe t v=>.qe t (v.dm τ)
 |.yl _=>.bad
 |a=>a
where go (τ:Nat→Option Nat):List AV→List AV
 | []=>[]
 |a::r=>a.dm τ::go τ r
def bh.dm (τ:Nat→Option Nat):bh→Option bh
 |.row cells k s e=>some (.row (AV.dm.go τ cells) k s e)
 |.map es=>some (.map (es.map fun e=>(e.1,e.2.dm τ)))
 |.loop .. => none
def nf (h:Tr bh):List Nat→List Nat
 | []=>[]
 |o::r=>(match h.get o with|some x=>x.names|none=>[])++nf h r
def gq (az:Nat) (keep:List Nat) (L:SL) (st:St):List Nat:=reach st.h fk (AV.names.go (keep.map (lk L))++nf st.h (dw 0 az)) (dw 0 az)
def gv (az:Nat) (keep:List Nat) (L:SL) (st:St):List AV:=AV.dm.go (fun o=>idx (gq az keep L st) o 0) (keep.map (lk L))
def j7 (h:Tr bh) (τ:Nat→Option Nat):List Nat→List (Option bh)
 | []=>[]
 |o::r=>(h.get o).bind (bh.dm τ)::j7 h τ r
def ey (az:Nat) (keep:List Nat) (L:SL) (st:St):List (Option bh):=j7 st.h (fun o=>idx (gq az keep L st) o 0) (gq az keep L st)
def ll:Nat→List (Option bh)→Tr bh
 |_,[]=>.nil
 |i,x::r=>Tr.set depth (ll (i+1) r) i x
def bf (os:List (Option bh)):St:={ h:=ll 0 os,nx:=os.length,rl:=[],wl:=[] }
def ic:List Nat→List AV→SL
 |t::ts,v::vs=>(t,v)::ic ts vs
 |_,_=>[]
def vw (az:Nat) (keep:List Nat) (X:List AV→List (Option bh)→Prop) (Q:QL):QL:=fun e L st=>
 match e with
 |.normal=>X (gv az keep L st) (ey az keep L st)
 |e=>Q e L st
def jo (az:Nat) (vs:List AV) (os:List (Option bh)) (vs':List AV) (os':List (Option bh)):Prop:=
 vs'.length=vs.length∧(az≤os.length→az≤os'.length)∧∀ (g:Gh) (w:World) (us:List Value),Ok g (bf os).h w→(∀ o,os.length≤o→g.inj o=none)→bm g w vs us→∃ g',Ok g' (bf os').h w∧bm g' w vs' us∧g'.b0=g.b0∧(∀ o,os'.length≤o→g'.inj o=none)∧(∀ o,o<az→g'.inj o=g.inj o)∧(∀ b j,g.K b j→g'.K b j) ∧
  (∀ o b base,((bf os').h.get o).isSome=true→g'.inj o=some (b,base)→∃ o2 base2,((bf os).h.get o2).isSome=true∧g.inj o2=some (b,base2))∧(∀ b j,g'.K b j→g.K b j∨∃ o base,((bf os).h.get o).isSome=true∧g.inj o=some (b,base))
theorem jo.refl (az vs os):jo az vs os vs os:=⟨rfl,id,fun g _ _ h1 hf h2=>⟨g,h1,h2,rfl,hf,fun _ _=>rfl,fun _ _ h=>h,fun o b base h h'=>⟨o,base,h,h'⟩,fun _ _ h=>.inl h⟩⟩
theorem jo.trans {az vs os vs' os' vs'' os''} (h:jo az vs os vs' os') (k:jo az vs' os' vs'' os''):jo az vs os vs'' os'':=by
 refine ⟨k.1.trans h.1,fun q=>k.2.1 (h.2.1 q),fun g w us h1 hf h2=>?_⟩
 obtain ⟨g1,a1,a2,a3,a4,a5,a6,a7,a8⟩:=h.2.2 g w us h1 hf h2
 obtain ⟨g2,b1,b2,b3,b4,b5,b6,b7,b8⟩:=k.2.2 g1 w us a1 a4 a2
 refine ⟨g2,b1,b2,b3.trans a3,b4,fun o ho=>(b5 o ho).trans (a5 o ho),fun b j q=>b6 b j (a6 b j q),fun o b base q q'=>?_,fun b j q=>?_⟩
 ·obtain ⟨o2,base2,c1,c2⟩:=b7 o b base q q'
  exact a7 o2 b base2 c1 c2
 ·rcases b8 b j q with c|⟨o,base,c1,c2⟩
  ·exact a8 b j c
  ·exact .inr (a7 o b base c1 c2)
def upW (az:Nat) (X:List AV→List (Option bh)→Prop) (vs:List AV) (os:List (Option bh)):Prop:=∃ vs' os',jo az vs os vs' os'∧X vs' os'
def se (az:Nat) (B:QL→SL→St→Prop) (Q:QL) (L:SL) (st:St):Prop:=
 ∃ keep:List Nat,∀ X:List AV→List (Option bh)→Prop,(∀ vs os,B (vw az keep (upW az X) Q) (ic keep vs) (bf os)→X vs os)→upW az X (gv az keep L st) (ey az keep L st)
def Gu (W:QL→SL→St→Prop) (Q:QL):QL:=fun e L st=>
 match e with
 |.normal=>W Q L st
 |e=>Q e L st
def Jb (id:Nat) (Q:QL):QL:=fun e L st=>
 match e with
 |.exit j=>bif Nat.beq j id then Q .normal L st else Q (.exit j) L st
 |e=>Q e L st
def bp:Nat→List AV→SL
 |_,[]=>[]
 |i,a::r=>(i,a)::bp (i+1) r
abbrev QI:=Ex→Option Ex→SL→St→Prop
abbrev He:=Nat→List AV→(Ex→St→Prop)→St→Prop
def Az (l:Nat) (a:AV):Bool:=
 match a with
 |.sc v=>
  match v with
  |.func f va vb=>
   match f with
   |.yield k=>Nat.beq k l && Nat.beq va.size 0 && Nat.beq vb.size 0
   |_=>false
  |_=>false
 |_=>false
def yieldOf (l:Nat) (o:Oper) (L:SL):Option (Array Operand):=
 match o.op with
 |.call { callee:=.value f,args,.. }=>bif Az l (dh L f) then some args else none
 |_=>none
def aef (d:Option Tmp) (L:SL) (K:Option Ex→SL→St→Prop) (e:Ex) (st:St):Prop:=
 match e with
 |.normal=>K none (jl d (.sc (.bool true)) L) st
 |e=>K (some e) (jl d (.sc (.bool false)) L) st
def zf (R:He) (p:Nat) (args:Array Operand) (d:Option Tmp) (K:Option Ex→SL→St→Prop) (L:SL) (st:St):Prop:=
 R p (args.toList.map (dh L)) (aef d L K) st
def U4 (P:Program) (T:dv) (R:He) (az:Nat) (o:Oper) (K:Option Ex→SL→St→Prop) (pe:Option Ex) (L:SL) (st:St) (y:Option (Array Operand)):Prop:=
 match y with
 |none=>G9 (fo P T o (dh L) st) o.dst L (K pe)
 |some args=>pe=none∧∃ keep:List Nat,zf R (ey az keep L st).length args o.dst K (ic keep (gv az keep L st)) (bf (ey az keep L st))
def opI (P:Program) (T:dv) (l:Nat) (R:He) (az:Nat) (o:Oper) (K:Option Ex→SL→St→Prop) (pe:Option Ex) (L:SL) (st:St):Prop:=U4 P T R az o K pe L st (yieldOf l o L)
def Z7 (a:AV) (c:Bool) (X Y:Option Ex→SL→St→Prop) (pe:Option Ex) (L:SL) (st:St):Prop:=zx (B0 a c) (X pe L st) (Y pe L st)
def I9 (ops:Array Oper) (gd:Option (Nat × Bool)) (X Y:Option Ex→SL→St→Prop) (pe:Option Ex) (L:SL) (st:St):Prop:=guarded ops L gd (X pe L st) (Y pe L st)
def Bx (a:AV) (X Y:Option Ex→SL→St→Prop) (pe:Option Ex) (L:SL) (st:St):Prop:=pz a (X pe L st) (Y pe L st)
def Vv (d:Option Tmp) (K:Option Ex→SL→St→Prop) (pe:Option Ex) (L:SL) (st:St):Prop:=K pe (jl d (.sc undef) L) st
def Dz (P:Program) (T:dv) (l:Nat) (R:He) (az:Nat) (ops:Array Oper):List Oper→(Option Ex→SL→St→Prop)→Option Ex→SL→St→Prop
 | [],K=>K
 |o::r,K=>I9 ops o.guard (opI P T l R az o (Dz P T l R az ops r K)) (Vv o.dst (Dz P T l R az ops r K))
def aco (W:QI→Option Ex→SL→St→Prop) (Q:QI):QI:=fun e pe L st=>
 match e with
 |.normal=>W Q pe L st
 |e=>Q e pe L st
def Qc (id:Nat) (Q:QI):QI:=fun e pe L st=>
 match e with
 |.exit j=>bif Nat.beq j id then Q .normal pe L st else Q (.exit j) pe L st
 |e=>Q e pe L st
def yx (Q':QL) (Q:QI):QI:=fun e pe L st=>
 match e with
 |.normal=>pe=none∧Q' .normal L st
 |e=>Q e pe L st
def oq (P:Program) (T:dv) (l:Nat) (R:He) (az:Nat):Code→QI→Option Ex→SL→St→Prop
 |.skip,Q,pe,L,st=>Q .normal pe L st
 |.label _,Q,pe,L,st=>Q .normal pe L st
 |.region _ ops false,Q,pe,L,st=>Dz P T l R az ops ops.toList (Q .normal) pe L st
 |.region _ ops true,Q,pe,L,st=>Dv P T ops true (Q .normal pe) L st
 |.seq a b,Q,pe,L,st=>oq P T l R az a (aco (oq P T l R az b) Q) pe L st
 |.cond c a b,Q,pe,L,st=>Bx (dh L c) (oq P T l R az a Q) (oq P T l R az b Q) pe L st
 |.block id b,Q,pe,L,st=>oq P T l R az b (Qc id Q) pe L st
 |.loop b,Q,pe,L,st=>pe=none∧se az (fun Q' L st=>oq P T l R az b (yx Q' Q) none L st) (fun _ _ _=>False) L st
 |.exit id,Q,pe,L,st=>Q (.exit id) pe L st
 |.ret,Q,pe,L,st=>Q .ret pe L st
 |_,_,_,_,_=>False
structure NT where
 n:Nat
 fix:List (Nat × Value):=[]
instance:Coe Nat NT:=⟨fun n=>{ n }⟩
def NT.has (nt:NT) (t:Nat):Bool:=Nat.blt t nt.n && nt.fix.all fun p=>!Nat.beq p.1 t
def kp (nt:NT) (ops:Array Oper):Bool:=ops.all fun o=>match o.guard with
 |none=>true
 |some (j,_)=>match (ops[j]?).bind (·.dst) with|some d=>Nat.blt d nt.n|none=>false
def oa (nt:NT) (ops:Array Oper):Bool:=ops.all fun o=>match o.dst with|none=>true|some d=>nt.has d
def _root_.Go.Code.si:Code→Bool
 |.seq a b=>a.si && b.si
 |.cond _ a b=>a.si && b.si
 |.block _ b=>b.si
 |.loop b=>b.si
 |.scope b=>b.si
 |.rangeFunc .. => false
 |_=>true
def dt (nt:NT):Code→Bool
 |.region _ ops _=>oa nt ops && kp nt ops
 |.seq a b=>dt nt a && dt nt b
 |.cond _ a b=>dt nt a && dt nt b
 |.block _ b=>dt nt b
 |.loop b=>dt nt b
 |.scope b=>dt nt b
 |.rangeFunc _ ps a b=>ps.all (fun t=>nt.has t) && dt nt a && dt nt b && a.si && b.si
 |_=>true
def Gw (a:AV):Option (Nat × List AV):=
 match a with
 |.fn f first captured=>
  match f,first with
  |.func g,[]=>some (g,captured)
  |_,_=>none
 |.sc v=>
  match v with
  |.func f first captured=>
   match f,first.toList with
   |.func g,[]=>some (g,captured.toList.map .sc)
   |_,_=>none
  |_=>none
 |_=>none
def Br (P:Program) (g:Nat):Option (Nat × Code):=
 match P.funcs[g]? with
 |some fn=>
  match fn.body with
  |some body=>bif l8 P g && dt fn.ntmps body && fn.results.isEmpty then some (fn.ntmps,body) else none
  |none=>none
 |none=>none
def Af:List Tmp→List AV→SL→SL
 |t::ts,v::vs,L=>Af ts vs ((t,v)::L)
 |_,_,L=>L
def atz (B:QL→SL→St→Prop) (X:Ex→St→Prop):QL:=fun e L st=>
 match e with
 |.normal=>B (fun e _ st=>X e st) L st
 |_=>False
def nb (ps:List Tmp) (A B:Nat→QL→SL→St→Prop) (L0:SL):He:=fun p args X st=>
 Nat.beq args.length ps.length=true∧Nat.ble p 1000=true∧A p (atz (B p) X) (Af ps args L0) st
def ab5 (Q:QL) (L0:SL):QI:=fun e pe _ st=>
 match e with
 |.exit _=>False
 |_=>
  match pe with
  |none=>Q .normal L0 st
  |some e=>Q e L0 st
def Ky (P:Program) (T:dv) (ps:List Tmp) (A B:Nat→QL→SL→St→Prop) (p:Nat) (Q:QL) (L0:SL) (st0:St) (caps:List AV) (c:Option (Nat × Code)):Prop:=
 match c with
 |some (nt,code)=>Nat.ble (caps.length+1) nt=true∧∀ l:Nat,oq P T l (nb ps A B L0) p code (ab5 Q L0) none (bp 0 (.sc (.func (.yield l) #[] #[])::caps)) st0
 |none=>False
def Ml (P:Program) (T:dv) (ps:List Tmp) (A B:Nat→QL→SL→St→Prop) (p:Nat) (Q:QL) (L0:SL) (st0:St) (f:Option (Nat × List AV)):Prop:=
 match f with
 |some (g,caps)=>Ky P T ps A B p Q L0 st0 caps (Br P g)
 |none=>False
def aqh (P:Program) (T:dv) (f:Operand) (ps:List Tmp) (A B:Nat→QL→SL→St→Prop) (p:Nat) (Q:QL) (L0:SL) (st0:St):Prop:=
 Nat.ble p 1000=true∧Ml P T ps A B p Q L0 st0 (Gw (dh L0 f))
def amm (P:Program) (T:dv) (f:Operand) (ps:List Tmp) (A B:Nat→QL→SL→St→Prop) (az:Nat) (Q:QL) (L:SL) (st:St):Prop:=
 ∃ keep:List Nat,aqh P T f ps A B (ey az keep L st).length Q (ic keep (gv az keep L st)) (bf (ey az keep L st))
def wl (P:Program) (T:dv):Nat→Code→QL→SL→St→Prop
 |_,.skip,Q,L,st=>Q .normal L st
 |_,.label _,Q,L,st=>Q .normal L st
 |_,.region _ ops draw,Q,L,st=>Dv P T ops draw (Q .normal) L st
 |az,.seq a b,Q,L,st=>wl P T az a (Gu (wl P T az b) Q) L st
 |az,.cond c a b,Q,L,st=>ug (dh L c) (wl P T az a Q) (wl P T az b Q) L st
 |az,.block id body,Q,L,st=>wl P T az body (Jb id Q) L st
 |az,.loop body,Q,L,st=>se az (wl P T az body) Q L st
 |az,.scope body,Q,L,st=>wl P T az body Q L st
 |_,.exit id,Q,L,st=>Q (.exit id) L st
 |_,.ret,Q,L,st=>Q .ret L st
 |az,.rangeFunc f ps asg body,Q,L,st=>amm P T f ps.toList (fun p=>wl P T p asg) (fun p=>wl P T p body) az Q L st
 |_,_,_,_,_=>False
def ss (P:Program) (L:SL) (st:St):List ResultVar→Option (List AV)
 | []=>some []
 |.tmp t::r=>(ss P L st r).map (lk L t :: ·)
 |.cell a t::r=>
  match qv P t (lk L a) st with
  |some (v,_)=>(ss P L st r).map (v :: ·)
  |none=>none
def Gs (r:Option (List AV)) (R:AV→St→Prop) (st:St):Prop:=
 match r with
 |some l=>R (pack l) st
 |none=>False
def ct (P:Program) (rs:List ResultVar) (R:AV→St→Prop):QL:=fun e L st=>
 match e with
 |.exit _=>False
 |_=>Gs (ss P L st rs) R st
def AV.fresh:AV→Bool
 |.sc _=>true
 |.agg l=>go l
 |.gi l=>go l
 |.vl loc _ es=>loc && go es
 |.fn _ a b=>go a && go b
 |.qe _ v=>v.fresh
 |.ez=>true
 |_=>false
where go:List AV→Bool
 | []=>true
 |a::r=>a.fresh && go r
structure pv (nt:NT) (tmps:Array Value):Prop where
 size:tmps.size=nt.n
 fix:∀ p ∈ nt.fix,tmps.getD p.1 undef=p.2
theorem NT.Er {nt:NT} {t:Nat} (h:nt.has t=true):t<nt.n∧∀ p ∈ nt.fix,p.1≠t:=by
 unfold NT.has at h
 rw [Bool.and_eq_true] at h
 refine ⟨Nat.le_of_ble_eq_true h.1,fun p hp e=>?_⟩
 have:=List.all_eq_true.1 h.2 p hp
 rw [e] at this
 simp at this
theorem pv.set {nt:NT} {tmps:Array Value} (h:pv nt tmps) {t:Nat} {u:Value} (ht:nt.has t=true):pv nt (tmps.setIfInBounds t u):=by
 obtain ⟨h1,h2⟩:=NT.Er ht
 refine ⟨by simp [h.size],fun p hp=>?_⟩
 rw [Array.getD_eq_getD_getElem?,Array.getElem?_setIfInBounds,if_neg (fun e=>h2 p hp e.symm),← Array.getD_eq_getD_getElem?]
 exact h.fix p hp
theorem pv.put {nt:NT} {a:Act} {dst:Option Tmp} {u:Value} (h:pv nt a.tmps) (hd:∀ d,dst=some d→nt.has d=true):pv nt (a.put dst u).tmps:=by
 cases dst with
 |none=>exact h
 |some d=>exact h.set (hd d rfl)
def ig (g:Gh) (w:World) (nt:NT) (L:SL) (tmps:Array Value):Prop:=pv nt tmps∧∀ t,Rel g w (lk L t) (tmps.getD t undef)
theorem ig.ext {g w g' w'} (hx:Ext g w g' w') {nt L tmps} (h:ig g w nt L tmps):ig g' w' nt L tmps:=⟨h.1,fun t=>(h.2 t).ext hx⟩
theorem ig.eval {g w nt L} {a:Act} (h:ig g w nt L a.tmps):l5 g w (dh L) a.eval:=by
 intro x
 cases x with
 |tmp t=>exact h.2 t
 |const v=>exact .sc v
 |global g'=>exact .sc _
 |func f=>exact .sc _
theorem mz (d t:Nat) (v:AV) (r:SL):lk ((d,v)::r) t=if d=t then v else lk r t:=by
 show (Bool.rec (motive:=fun _=>AV) (lk r t) v (Nat.beq d t))=_
 by_cases h:d=t
 ·subst h;rw [Nat.beq_refl,if_pos rfl]
 ·rw [if_neg h,ou h]
theorem ig.put {g w nt L} {a:Act} {dst:Option Tmp} {v:AV} {u:Value} (h:ig g w nt L a.tmps) (hv:Rel g w v u) (hd:∀ d,dst=some d→nt.has d=true):ig g w nt (jl dst v L) (a.put dst u).tmps:=by
 cases dst with
 |none=>exact h
 |some d=>
  have hd:=hd d rfl
  refine ⟨h.1.set hd,fun t=>?_⟩
  simp only [jl,mz,Act.put,Array.getD_eq_getD_getElem?,Array.getElem?_setIfInBounds]
  by_cases e:d=t
  ·subst e;rw [if_pos rfl,if_pos rfl,if_pos (by rw [h.1.size];exact (NT.Er hd).1)];exact hv
  ·rw [if_neg e,if_neg e,← Array.getD_eq_getD_getElem?];exact h.2 t
structure dy where
 b0:Nat
 w:World
 K:Nat→Nat→Prop
 O:Nat→Prop
 az:Nat
 pb:Nat→Option (Nat × Nat)
 far:Nat→Prop:=fun _=>False
 n0:Nat
 D:List Deferred:=[]
structure rz (B:dy) (g:Gh) (h:Tr bh) (w:World):Prop where
 b0:g.b0=B.b0
 pins:∀ o,(o<B.az∨B.far o)→g.inj o=B.pb o
 K:∀ b j,B.K b j→g.K b j
 cell:∀ b j,B.K b j→w.cell? ⟨b,j,none⟩=B.w.cell? ⟨b,j,none⟩
 size:B.w.heap.size≤w.heap.size
 os:w.os=B.w.os
 tape:w.tape=B.w.tape
 output:w.output=B.w.output
 frame:∀ b,b<B.w.heap.size→¬ B.O b→w.heap[b]? = B.w.heap[b]?
 own:∀ o b base,(h.get o).isSome=true→g.inj o=some (b,base)→B.w.heap.size≤b∨B.O b
 oj:∀ b j,g.K b j→B.K b j∨B.w.heap.size≤b∨B.O b
 sg:∀ (b:Nat) (cs:Array Value) (e:TypeId) (fr:Nat × Nat),B.w.heap[b]? = some (Obj.cells cs e fr)→∃ (cs':Array Value) (fr':Nat × Nat),w.heap[b]? = some (Obj.cells cs' e fr')∧cs'.size=cs.size
 lp:∀ (b:Nat) (l:Loop),B.w.heap[b]? = some (Obj.loop l)→∃ l',w.heap[b]? = some (Obj.loop l')
 whole:∀ (b:Nat) (cs:Array Value) (e:TypeId) (fr:Nat × Nat),B.w.heap[b]? = some (Obj.cells cs e fr)→(∀ j,B.K b j)→w.heap[b]? = B.w.heap[b]?
structure js (B:dy) (g:Gh) (st:St) (w:World):Prop where
 ok:Ok g st.h w
 fresh:∀ o,st.nx≤o→¬ B.far o→g.inj o=none
 base:rz B g st.h w
 az:B.az≤st.nx
def dy.aj3 (B:dy) (n n':Nat):Prop:=∀ o,n≤o→o<n'→¬ B.far o
def dy.j5 (B:dy):Prop:=∀ o,¬ B.far o
theorem dy.j5.qh {B:dy} (h:B.j5) (n n':Nat):B.aj3 n n':=fun o _ _=>h o
theorem js.free {B g st st' w} (h:js B g st w) (hn:B.aj3 st.nx st'.nx):lz g st st':=fun o h1 h2=>h.fresh o h1 (hn o h1 h2)
theorem js.step {B g st w g' st' w'} (h:js B g st w) (hn:B.aj3 st.nx st'.nx) (s:Stp g st w g' st' w') (hok:Ok g' st'.h w'):js B g' st' w':=by
 refine ⟨hok,fun o h1 h2=>s.step.fresh o (h.fresh o (Nat.le_trans s.le h1) h2) (by omega),?_,Nat.le_trans h.az s.le⟩
 have b:=h.base
 have t:=s.step
 refine ⟨t.ext.b0.trans b.b0,fun o ho=>?_,fun c j hc=>t.ext.K c j (b.K c j hc),fun c j hc=>(t.ext.cell c j (b.K c j hc)).trans (b.cell c j hc),Nat.le_trans b.size t.size,t.os.trans b.os,t.tape.trans b.tape,t.output.trans b.output,fun c hc hO=>?_,fun o c base ho hi=>?_,fun c j hc=>?_,fun c cs e fr h=>?_,fun c l h=>?_,fun c cs e fr h hK=>(t.ext.whole c cs e fr ((b.whole c cs e fr h hK).trans h) (fun j=>b.K c j (hK j))).trans (b.whole c cs e fr h hK)⟩
 ·have h1:=b.pins o ho
  have h2:=h.az
  cases hp:B.pb o with
  |none=>
   rw [hp] at h1
   refine t.fresh o h1 (fun hr=>?_)
   rcases ho with ho|ho
   ·omega
   ·exact hn o hr.1 hr.2 ho
  |some p=>rw [hp] at h1;exact t.ext.inj o p h1
 ·rw [t.frame c (Nat.lt_of_lt_of_le hc b.size) (fun o base ho hi=>?_)]
  ·exact b.frame c hc hO
  ·rcases b.own o c base ho hi with h1|h1
   ·omega
   ·exact hO h1
 ·rcases t.own o c base ho hi with h1|⟨o',base',h1,h2⟩
  ·exact .inl (Nat.le_trans b.size h1)
  ·exact b.own o' c base' h1 h2
 ·rcases t.oj c j hc with h1|h1|⟨o',base',h1,h2⟩
  ·exact b.oj c j h1
  ·exact .inr (.inl (Nat.le_trans b.size h1))
  ·exact .inr (b.own o' c base' h1 h2)
 ·obtain ⟨cs1,fr1,h1,h2⟩:=b.sg c cs e fr h
  obtain ⟨cs2,fr2,h3,h4⟩:=t.ext.sg c cs1 e fr1 h1
  exact ⟨cs2,fr2,h3,h4.trans h2⟩
 ·obtain ⟨l1,h1⟩:=b.lp c l h
  exact t.ext.lp c l1 h1
theorem js.drawn {B g st w} (h:js B g st w):js B g st { w with drawn:=w.drawn+1 }:=
 h.step (fun o h1 h2=>by omega) ⟨Nat.le_refl _,Step.same (w:=w) rfl rfl rfl rfl⟩ (Ok.same (w:=w) rfl h.ok)
def Fin (B:dy) (nt:NT) (Q:QL):Exit→Act→World→Prop:=fun ex a w=>
 ∃ e L st g,ex=sh e∧Q e L st∧js B g st w∧ig g w nt L a.tmps∧Marks B.D B.n0 st.h g w a.defers
theorem Fin.mk' {B nt Q e L st g} {a:Act} {w:World} (hq:Q e L st) (hc:js B g st w) (hr:ig g w nt L a.tmps) (hd:Marks B.D B.n0 st.h g w a.defers):Fin B nt Q (sh e) a w:=⟨e,L,st,g,rfl,hq,hc,hr,hd⟩
def C1 (P:Program) (o:Oper) (a:Act) (w:World) (T:Value→World→Prop):Prop:=
 ∀ (ro:Option Nat) (N:Nat) (K:Act→World→Prop) (Q:Exit→Act→World→Prop),(∀ v w',T v w'→K (a.put o.dst v) w')→o.wpIn (eh ro) N P a w K Q
def Low (st:St):Prop:=∀ o x,st.h.get o=some x→o<st.nx
def Z4 (P:Program) (f:Nat) (args:List AV) (m:M AV):Prop:=
 ∀ (g:Gh) (st:St) (w:World) (vs:List Value) (r:AV) (st':St),Ok g st.h w→lz g st st'→Low st→bm g w args vs→m st=some (r,st') →
  (∃ v w' g',(callFunc f vs.toArray).run P w = .ok (.value v) w'∧Step g st.h w st.nx st'.nx g' st'.h w'∧Ok g' st'.h w'∧Rel g' w' r v) ∨
  ((
   callFunc f vs.toArray).run P w = .ok (.enter f vs.toArray) w ∧
   Calls P f vs.toArray w (fun e w'=>∃ v g',e = .returned v∧Step g st.h w st.nx st'.nx g' st'.h w'∧Ok g' st'.h w'∧Rel g' w' r v))
def De (P:Program) (f:Nat) (args:List AV) (m:M AV):Prop:=
 ∀ (g:Gh) (st:St) (w:World) (vs:List Value) (r:AV) (st':St),Ok g st.h w→lz g st st'→bm g w args vs→m st=some (r,st') →
  (∃ v w' g',(callFunc f vs.toArray).run P w = .ok (.value v) w'∧Step g st.h w st.nx st'.nx g' st'.h w'∧Ok g' st'.h w'∧Rel g' w' r v) ∨
  ((
   callFunc f vs.toArray).run P w = .ok (.enter f vs.toArray) w ∧
   Calls P f vs.toArray w (fun e w'=>∃ v g',e = .returned v∧Step g st.h w st.nx st'.nx g' st'.h w'∧Ok g' st'.h w'∧Rel g' w' r v))
theorem De.toF {P:Program} [KP P] {f:Nat} {args:List AV} {m:M AV} (h:De P f args m):Z4 P f args m:=fun g st w vs r st' h1 h2 _ h3 h4=>h g st w vs r st' h1 h2 h3 h4
def an (P:Program) (T:dv):Prop:=∀ f b m,T.find f=some (b,m)→∀ args,De P f args (m args)
def Ks (P:Program) (T:dv):Prop:=∀ f b m,T.find f=some (b,m)→∀ args,Z4 P f args (m args)
theorem an.toF {P:Program} [KP P] {T:dv} (h:an P T):Ks P T:=fun f b m hf args=>(h f b m hf args).toF
theorem Ih {P:Program} [KP P] {T:dv} {o:Oper} {ρ:Operand→AV} {st st':St} {r:AV} (h:fo P T o ρ st=some (r,st')) :
 (∃ f args ts,o.op = .call { callee:=.value f,args,argTypes:=ts }∧vr T (ρ f) (args.toList.map ρ) st=some (r,st'))∨mono (Ac P o ρ) st=some (r,st'):=by
 obtain ⟨dst,op,type,pos,after,guard⟩:=o
 cases op with
 |call c=>
  obtain ⟨callee,args,ts⟩:=c
  cases callee with
  |value f=>exact .inl ⟨f,args,ts,rfl,h⟩
  |_=>exact .inr h
 |_=>exact .inr h
theorem ac9 {P:Program} [KP P] {o:Oper} {a:Act} {g:Gh} {st st':St} {w:World} {ρ:Operand→AV} {r:AV} (hok:Ok g st.h w) (hf:lz g st st') (hr:l5 g w ρ a.eval) (h:mono (Ac P o ρ) st=some (r,st')) :
 C1 P o a w (fun v w'=>∃ g',Step g st.h w st.nx st'.nx g' st'.h w'∧Ok g' st'.h w'∧Rel g' w' r v):=by
 obtain ⟨h1,hle⟩:=rq h
 have hd:∀ c,o.op ≠ .defer c:=by
  intro c e
  unfold Ac at h1
  rw [e] at h1
  cases h1
 obtain ⟨nx,w',g',q1,q2,q3,q4⟩:=aav (P:=P) hok hf hr h1
 intro ro N K Q hK
 refine ⟨i4 ro P o a w,?_⟩
 rw [Oper.semAt_eq _ _ _ hd,q1]
 rcases q4 with ⟨v,rfl,hv⟩|⟨rfl,rfl⟩
 ·exact hK v w' ⟨g',q2,q3,hv⟩
 ·exact hK undef w' ⟨g',q2,q3,.sc _⟩
theorem ane {P:Program} [KP P] {o:Oper} {a:Act} {g:Gh} {st st':St} {w:World} {r:AV} {h:Nat} {args:List AV} {vs:List Value} {m:M AV} (hnd:∀ c,o.op ≠ .defer c) (hok:Ok g st.h w) (hf:lz g st st') (hlo:Low st)
 (hm:Z4 P h args m) (hrel:bm g w args vs) (hrun:(execOp a.eval o).run P w=(callFunc h vs.toArray).run P w) (hst:m st=some (r,st')) :
 C1 P o a w (fun v w'=>∃ g',Step g st.h w st.nx st'.nx g' st'.h w'∧Ok g' st'.h w'∧Rel g' w' r v):=by
 intro ro N K Q hK
 refine ⟨i4 ro P o a w,?_⟩
 rw [Oper.semAt_eq _ _ _ hnd,hrun]
 rcases hm g st w vs r st' hok hf hlo hrel hst with ⟨v,w',g',q1,q2,q3,q4⟩|⟨q1,q2⟩
 ·rw [q1];exact hK v w' ⟨g',q2,q3,q4⟩
 ·rw [q1]
  refine ⟨(fun h=>(by cases h)),(ni (ro:=ro) (n:=N - 1) q2).mono ?_⟩
  rintro e w' ⟨v,g',rfl,p2,p3,p4⟩
  exact hK v w' ⟨g',p2,p3,p4⟩
theorem aj9 {P:Program} [KP P] {o:Oper} {a:Act} {g:Gh} {st st':St} {w:World} {r:AV} {h:Nat} {args:List AV} {vs:List Value} {m:M AV} (hnd:∀ c,o.op ≠ .defer c) (hok:Ok g st.h w) (hf:lz g st st')
 (hm:De P h args m) (hrel:bm g w args vs) (hrun:(execOp a.eval o).run P w=(callFunc h vs.toArray).run P w) (hst:m st=some (r,st')) :
 C1 P o a w (fun v w'=>∃ g',Step g st.h w st.nx st'.nx g' st'.h w'∧Ok g' st'.h w'∧Rel g' w' r v):=by
 intro ro N K Q hK
 refine ⟨i4 ro P o a w,?_⟩
 rw [Oper.semAt_eq _ _ _ hnd,hrun]
 rcases hm g st w vs r st' hok hf hrel hst with ⟨v,w',g',q1,q2,q3,q4⟩|⟨q1,q2⟩
 ·rw [q1];exact hK v w' ⟨g',q2,q3,q4⟩
 ·rw [q1]
  refine ⟨(fun h=>(by cases h)),(ni (ro:=ro) (n:=N - 1) q2).mono ?_⟩
  rintro e w' ⟨v,g',rfl,p2,p3,p4⟩
  exact hK v w' ⟨g',p2,p3,p4⟩
theorem awb {P:Program} [KP P] {T:dv} (hT:an P T) {o:Oper} {a:Act} {g:Gh} {st st':St} {w:World} {ρ:Operand→AV} {r:AV} {f:Operand} {args:Array Operand} {ts:Array TypeId}
 (ho:o.op = .call { callee:=.value f,args,argTypes:=ts }) (hok:Ok g st.h w) (hf:lz g st st') (hr:l5 g w ρ a.eval) (h:vr T (ρ f) (args.toList.map ρ) st=some (r,st')) :
 C1 P o a w (fun v w'=>∃ g',Step g st.h w st.nx st'.nx g' st'.h w'∧Ok g' st'.h w'∧Rel g' w' r v):=by
 have hargs:=hr.list args.toList
 have go:∀ (k:Nat) (first captured:List AV) (va vb:Array Value),a.eval f = .func (.func k) va vb→bm g w first va.toList→bm g w captured vb.toList→uk T k (first++args.toList.map ρ++captured) st=some (r,st') →
  C1 P o a w (fun v w'=>∃ g',Step g st.h w st.nx st'.nx g' st'.h w'∧Ok g' st'.h w'∧Rel g' w' r v):=by
  intro k first captured va vb hfn h1 h2 hc
  unfold uk at hc
  cases hfd:T.find k with
  |none=>rw [hfd] at hc;cases hc
  |some p=>
   obtain ⟨b,m⟩:=p
   rw [hfd] at hc
   refine aj9 (Fq ho) (vs:=va.toList++args.toList.map a.eval++vb.toList) hok hf (hT k b m hfd _) ((h1.append hargs).append h2) ?_ (rq hc).1
   rw [Aq ho hfn]
   congr 2
   apply Array.ext'
   simp
 have hv:=hr f
 unfold vr at h
 cases hx : ρ f with
 |fn fx first captured=>
  rw [hx] at h hv
  simp only at h
  cases fx with
  |func k=>
   have:∃ va vb,a.eval f = .func (.func k) va vb∧bm g w first va.toList∧bm g w captured vb.toList:=by
    generalize a.eval f=vf at hv
    cases hv with
    |fn _ _ _ va vb hs hh hs' hh'=>exact ⟨va,vb,rfl,⟨by simpa using hs,fun i x y hx hy=>hh i x y hx (by simpa using hy)⟩,⟨by simpa using hs',fun i x y hx hy=>hh' i x y hx (by simpa using hy)⟩⟩
   obtain ⟨va,vb,e,h1,h2⟩:=this
   exact go k first captured va vb e h1 h2 h
  |_=>cases h
 |sc x=>
  rw [hx] at h hv
  simp only at h
  cases x with
  |func fx first captured=>
   cases fx with
   |func k=>
    have e:=hv.exact rfl
    exact go k _ _ first captured e (bm.D5 g w _) (bm.D5 g w _) h
   |_=>cases h
  |_=>cases h
 |_=>rw [hx] at h;cases h
theorem A5 {P:Program} [KP P] {T:dv} (hT:an P T) {o:Oper} {a:Act} {g:Gh} {st st':St} {w:World} {ρ:Operand→AV} {r:AV} (hok:Ok g st.h w) (hf:lz g st st') (hr:l5 g w ρ a.eval) (h:fo P T o ρ st=some (r,st')) :
 C1 P o a w (fun v w'=>∃ g',Step g st.h w st.nx st'.nx g' st'.h w'∧Ok g' st'.h w'∧Rel g' w' r v):=by
 rcases Ih h with ⟨f,args,ts,ho,h1⟩|h1
 ·exact awb hT ho hok hf hr h1
 ·exact ac9 hok hf hr h1
theorem aq8 {P:Program} [KP P] {T:dv} (hT:Ks P T) {o:Oper} {a:Act} {g:Gh} {st st':St} {w:World} {ρ:Operand→AV} {r:AV} {f:Operand} {args:Array Operand} {ts:Array TypeId}
 (ho:o.op = .call { callee:=.value f,args,argTypes:=ts }) (hok:Ok g st.h w) (hf:lz g st st') (hlo:Low st) (hr:l5 g w ρ a.eval) (h:vr T (ρ f) (args.toList.map ρ) st=some (r,st')) :
 C1 P o a w (fun v w'=>∃ g',Step g st.h w st.nx st'.nx g' st'.h w'∧Ok g' st'.h w'∧Rel g' w' r v):=by
 have hargs:=hr.list args.toList
 have go:∀ (k:Nat) (first captured:List AV) (va vb:Array Value),a.eval f = .func (.func k) va vb→bm g w first va.toList→bm g w captured vb.toList→uk T k (first++args.toList.map ρ++captured) st=some (r,st') →
  C1 P o a w (fun v w'=>∃ g',Step g st.h w st.nx st'.nx g' st'.h w'∧Ok g' st'.h w'∧Rel g' w' r v):=by
  intro k first captured va vb hfn h1 h2 hc
  unfold uk at hc
  cases hfd:T.find k with
  |none=>rw [hfd] at hc;cases hc
  |some p=>
   obtain ⟨b,m⟩:=p
   rw [hfd] at hc
   refine ane (Fq ho) (vs:=va.toList++args.toList.map a.eval++vb.toList) hok hf hlo (hT k b m hfd _) ((h1.append hargs).append h2) ?_ (rq hc).1
   rw [Aq ho hfn]
   congr 2
   apply Array.ext'
   simp
 have hv:=hr f
 unfold vr at h
 cases hx : ρ f with
 |fn fx first captured=>
  rw [hx] at h hv
  simp only at h
  cases fx with
  |func k=>
   have:∃ va vb,a.eval f = .func (.func k) va vb∧bm g w first va.toList∧bm g w captured vb.toList:=by
    generalize a.eval f=vf at hv
    cases hv with
    |fn _ _ _ va vb hs hh hs' hh'=>exact ⟨va,vb,rfl,⟨by simpa using hs,fun i x y hx hy=>hh i x y hx (by simpa using hy)⟩,⟨by simpa using hs',fun i x y hx hy=>hh' i x y hx (by simpa using hy)⟩⟩
   obtain ⟨va,vb,e,h1,h2⟩:=this
   exact go k first captured va vb e h1 h2 h
  |_=>cases h
 |sc x=>
  rw [hx] at h hv
  simp only at h
  cases x with
  |func fx first captured=>
   cases fx with
   |func k=>
    have e:=hv.exact rfl
    exact go k _ _ first captured e (bm.D5 g w _) (bm.D5 g w _) h
   |_=>cases h
  |_=>cases h
 |_=>rw [hx] at h;cases h
theorem am2 {P:Program} [KP P] {T:dv} (hT:Ks P T) {o:Oper} {a:Act} {g:Gh} {st st':St} {w:World} {ρ:Operand→AV} {r:AV} (hok:Ok g st.h w) (hf:lz g st st') (hlo:Low st) (hr:l5 g w ρ a.eval) (h:fo P T o ρ st=some (r,st')) :
 C1 P o a w (fun v w'=>∃ g',Step g st.h w st.nx st'.nx g' st'.h w'∧Ok g' st'.h w'∧Rel g' w' r v):=by
 rcases Ih h with ⟨f,args,ts,ho,h1⟩|h1
 ·exact aq8 hT ho hok hf hlo hr h1
 ·exact ac9 hok hf hr h1
theorem Eh {P:Program} [KP P] {o:Oper} {a:Act} {g:Gh} {st:St} {w:World} {L:SL} {K:SL→St→Prop} (hok:Ok g st.h w) (hfr:∀ o,st.nx≤o→g.inj o=none) (hr:l5 g w (dh L) a.eval) (h:Na P o L st K) :
 C1 P o a w (fun v w'=>∃ g' r st',K (jl o.dst r L) st'∧st.nx≤st'.nx∧Step g st.h w st.nx st'.nx g' st'.h w'∧Ok g' st'.h w'∧Rel g' w' r v):=by
 unfold Na at h
 split at h
 ·rename_i f args ts ho
  have hargs:=hr.list args.toList
  have go:∀ (k:Nat) (first captured:List AV) (va vb:Array Value),a.eval f = .func (.func k) va vb→bm g w first va.toList→bm g w captured vb.toList→zt P k (first++args.toList.map (dh L)++captured) st (i5 K o.dst L) →
   C1 P o a w (fun v w'=>∃ g' r st',K (jl o.dst r L) st'∧st.nx≤st'.nx∧Step g st.h w st.nx st'.nx g' st'.h w'∧Ok g' st'.h w'∧Rel g' w' r v):=by
   intro k first captured va vb hfn h1 h2 hc
   have hrun:(execOp a.eval o).run P w=(callFunc k (va.toList++args.toList.map a.eval++vb.toList).toArray).run P w:=by
    rw [Aq ho hfn]
    congr 2
    apply Array.ext'
    simp
   intro ro N K' Q hK
   refine ⟨i4 ro P o a w,?_⟩
   rw [Oper.semAt_eq _ _ _ (Fq ho),hrun]
   rcases hc g w _ hok hfr ((h1.append hargs).append h2) with ⟨v,w',g',r,st',q1,q2,q3,q4,q5,q6⟩|⟨q1,q2⟩
   ·rw [q1];exact hK v w' ⟨g',r,st',q2,q3,q4,q5,q6⟩
   ·rw [q1]
    refine ⟨(fun h=>(by cases h)),(ni (ro:=ro) (n:=N - 1) q2).mono ?_⟩
    rintro e w' ⟨v,g',r,st',rfl,p2,p3,p4,p5,p6⟩
    exact hK v w' ⟨g',r,st',p2,p3,p4,p5,p6⟩
  have hv:=hr f
  unfold al0 at h
  cases hcv:We (dh L f) (args.toList.map (dh L)) with
  |none=>rw [hcv] at h;exact h.elim
  |some p=>
  obtain ⟨k,azs⟩:=p
  rw [hcv] at h
  simp only at h
  unfold We at hcv
  cases hx:dh L f with
  |fn fx first captured=>
   rw [hx] at hcv hv
   simp only at hcv
   cases fx with
   |func k=>
    cases hcv
    have:∃ va vb,a.eval f = .func (.func k) va vb∧bm g w first va.toList∧bm g w captured vb.toList:=by
     generalize a.eval f=vf at hv
     cases hv with
     |fn _ _ _ va vb hs hh hs' hh'=>exact ⟨va,vb,rfl,⟨by simpa using hs,fun i x y hx hy=>hh i x y hx (by simpa using hy)⟩,⟨by simpa using hs',fun i x y hx hy=>hh' i x y hx (by simpa using hy)⟩⟩
    obtain ⟨va,vb,e,h1,h2⟩:=this
    exact go k first captured va vb e h1 h2 h
   |_=>cases hcv
  |sc x=>
   rw [hx] at hcv hv
   simp only at hcv
   cases x with
   |func fx first captured=>
    cases fx with
    |func k=>
     cases hcv
     have e:=hv.exact rfl
     exact go k _ _ first captured e (bm.D5 g w _) (bm.D5 g w _) h
    |_=>cases hcv
   |_=>cases hcv
  |_=>rw [hx] at hcv;cases hcv
 ·exact h.elim
theorem aso {T:dv} {f:AV} {args:List AV} {st st':St} {r:AV} (h:vr T f args st=some (r,st')):st.nx≤st'.nx:=by
 have one:∀ k args,uk T k args st=some (r,st')→st.nx≤st'.nx:=by
  intro k args h
  unfold uk at h
  cases hfd:T.find k with
  |none=>rw [hfd] at h;cases h
  |some p=>rw [hfd] at h;exact (rq h).2
 have two:∀ k args,abn T k args st=some (r,st')→st.nx≤st'.nx:=by
  intro k args h
  cases k with
  |func k=>exact one k args h
  |_=>cases h
 unfold vr at h
 cases f with
 |fn k a b=>exact two k _ h
 |sc x=>
  cases x with
  |func k a b=>exact two k _ h
  |_=>cases h
 |_=>cases h
theorem uw {P:Program} [KP P] {T:dv} {o:Oper} {ρ:Operand→AV} {st st':St} {r:AV} (h:fo P T o ρ st=some (r,st')):st.nx≤st'.nx:=by
 rcases Ih h with ⟨f,args,ts,ho,h1⟩|h1
 ·exact aso h1
 ·exact (rq h1).2
theorem Si {g w a v b} (h:Rel g w a v) (hb:a.bool=some b):v = .bool b:=by
 unfold AV.bool AV.exact ny at hb
 cases a with
 |sc x=>
  have:=h.exact rfl
  subst this
  simp only [Option.bind_some] at hb
  split at hb
  ·simp at hb;subst hb;rfl
  ·cases hb
 |_=>cases hb
theorem Ph {a:AV} {x y:Prop} (h:pz a x y):∃ v,a.bool=some v∧(v=true→x)∧(v=false→y):=by
 unfold pz at h
 split at h
 ·rename_i v hv;exact ⟨v,hv,h⟩
 ·exact h.elim
theorem Rm {o:Option Bool} {x y:Prop} (h:zx o x y):∃ b,o=some b∧(b=true→x)∧(b=false→y):=by
 unfold zx at h
 split at h
 ·rename_i v;exact ⟨v,rfl,h⟩
 ·exact h.elim
theorem Tg {g w a v c b} (h:Rel g w a v) (hb:B0 a c=some b):E3 c v=b:=by
 unfold B0 AV.exact at hb
 cases a with
 |sc x=>
  have:=h.exact rfl
  subst this
  simpa using hb
 |_=>cases hb
theorem Pn {ops:Array Oper} {tmps:Array Value} {j d:Nat} (c:Bool) (hd:((ops[j]?).bind (·.dst))=some d) (hlt:d<tmps.size):(yielded ops tmps j == some c)=E3 c (tmps.getD d undef):=by
 unfold yielded
 rw [hd,Option.bind_some,Array.getD_eq_getD_getElem?,Array.getElem?_eq_getElem hlt,Option.getD_some]
 generalize tmps[d]=v
 unfold E3
 cases v<;>first|rfl|(cases c<;>rfl)
theorem tm {ops:Array Oper} {L:SL} {o:Oper} {x y:Prop} {g w nt} {a:Act} (hr:ig g w nt L a.tmps) (hs:∀ j b,o.guard=some (j,b)→∃ d,((ops[j]?).bind (·.dst))=some d∧d<nt.n) (h:guarded ops L o.guard x y) :
 (Region.wanted o (yielded ops a.tmps)=true∧x)∨(Region.wanted o (yielded ops a.tmps)=false∧y):=by
 unfold guarded at h
 unfold Region.wanted
 cases hg:o.guard with
 |none=>rw [hg] at h;exact .inl ⟨rfl,h⟩
 |some q=>
  obtain ⟨j,b⟩:=q
  obtain ⟨d,hd,hlt⟩:=hs j b hg
  rw [hg] at h
  have hgs:tn ops j=d:=by unfold tn;rw [hd];rfl
  simp only [hgs] at h
  dsimp only
  obtain ⟨c,hc,h1,h2⟩:=Rm h
  rw [Pn b hd (by rw [hr.1.size];exact hlt),Tg (hr.2 d) hc]
  cases c with
  |true=>exact .inl ⟨rfl,h1 rfl⟩
  |false=>exact .inr ⟨rfl,h2 rfl⟩
theorem j4 {nt:NT} {ops:Array Oper} (h:oa nt ops=true) {o:Oper} (ho:o ∈ ops):∀ d,o.dst=some d→nt.has d=true:=by
 intro d hd
 unfold oa at h
 rw [Array.all_eq_true_iff_forall_mem] at h
 have:=h o ho
 rw [hd] at this
 simpa using this
theorem uu {nt:NT} {ops:Array Oper} (h:kp nt ops=true) {o:Oper} (ho:o ∈ ops):∀ j b,o.guard=some (j,b)→∃ d,((ops[j]?).bind (·.dst))=some d∧d<nt.n:=by
 intro j b hg
 unfold kp at h
 rw [Array.all_eq_true_iff_forall_mem] at h
 have:=h o ho
 rw [hg] at this
 simp only at this
 split at this
 ·rename_i d hd;exact ⟨d,hd,by simpa using this⟩
 ·cases this
theorem ail {P:Program} [KP P] {T:dv} (hT:an P T) {ops:Array Oper} {ro:Option Nat} {N:Nat} {B:dy} {nt:NT} {Q:Exit→Act→World→Prop} {K:SL→St→Prop} (hnf:B.j5) (hg:kp nt ops=true) (hd:oa nt ops=true)
 (hK:∀ L st g w a,K L st→js B g st w→ig g w nt L a.tmps→Marks B.D B.n0 st.h g w a.defers→Q .normal a w) :
 ∀ (l:List Oper) (is:List Nat),(∀ o ∈ l,o ∈ ops)→is.map (fun i=>ops[i]?)=l.map some→∀ L st g w a,opsL P T ops l K L st→js B g st w→ig g w nt L a.tmps→Marks B.D B.n0 st.h g w a.defers→wpOpsIn (eh ro) N P ops Q is a w:=by
 intro l
 induction l with
 |nil=>
  intro is _ his L st g w a h hc hr hdf
  cases is with
  |nil=>exact hK L st g w a h hc hr hdf
  |cons i is=>cases his
 |cons o l ih=>
  intro is hmem his L st g w a h hc hr hdf
  cases is with
  |nil=>cases his
  |cons i is=>
   simp only [List.map_cons,List.cons.injEq] at his
   obtain ⟨hi,his⟩:=his
   have ho:=hmem o (by simp)
   simp only [wpOpsIn,hi]
   rcases tm hr (uu hg ho) h with ⟨hw,h1⟩|⟨hw,h1⟩
   ·rw [hw,if_pos rfl]
    unfold I6 yr at h1
    cases hop:fo P T o (dh L) st with
    |none=>
     rw [hop] at h1
     refine Eh hc.ok (fun o ho=>hc.fresh o ho (hnf o)) hr.eval h1 ro N _ _ ?_
     rintro u w' ⟨g',v,st',q0,q1,q2,q3,q4⟩
     exact ih is (fun o ho=>hmem o (by simp [ho])) his _ st' g' w' _ q0 (hc.step (hnf.qh _ _) ⟨q1,q2⟩ q3) ((hr.ext q2.ext).put q4 (j4 hd ho)) (by rw [put_defers];exact hdf.step q2)
    |some p=>
     obtain ⟨v,st'⟩:=p
     rw [hop] at h1
     refine A5 hT hc.ok (hc.free (hnf.qh _ _)) hr.eval hop ro N _ _ ?_
     rintro u w' ⟨g',q1,q2,q3⟩
     exact ih is (fun o ho=>hmem o (by simp [ho])) his _ st' g' w' _ h1 (hc.step (hnf.qh _ _) ⟨uw hop,q1⟩ q2) ((hr.ext q1.ext).put q3 (j4 hd ho)) (by rw [put_defers];exact hdf.step q1)
   ·rw [hw,if_neg (by simp)]
    refine ⟨i4 ro P o a w,?_⟩
    exact ih is (fun o ho=>hmem o (by simp [ho])) his _ st g w _ h1 hc (hr.put (.sc _) (j4 hd ho)) (by rw [put_defers];exact hdf)
theorem F2 (ops:Array Oper):(List.range ops.size).map (fun i=>ops[i]?)=ops.toList.map some:=by
 apply List.ext_getElem?
 intro i
 simp only [List.getElem?_map]
 by_cases h:i<ops.size
 ·simp [h]
 ·simp [h]
theorem kj (τ:Nat→Option Nat):∀ l:List AV,AV.dm.go τ l=l.map (AV.dm τ)
 | []=>rfl
 |a::r=>by simp [AV.dm.go,kj τ r]
theorem Yu (τ:Nat→Option Nat) (a:AV):(a.dm τ).cells=a.cells.map (AV.dm τ):=by
 cases a<;>simp only [AV.dm]<;>(try split)<;>simp_all [AV.cells,AV.dm,kj]
def Gh.dm (g:Gh) (N:List Nat):Gh:={ g with inj:=fun i=>(N[i]?).bind g.inj }
theorem Rel.dm {g w} {τ:Nat→Option Nat} {N:List Nat} (hτ:∀ o p,τ o=some p→N[p]? = some o) {a:AV} {v:Value} (h:Rel g w a v):Rel (g.dm N) w (a.dm τ) v:=by
 have hi:∀ o p q,τ o=some p→g.inj o=some q→(g.dm N).inj p=some q:=by
  intro o p q h1 h2;simp [Gh.dm,hτ o p h1,h2]
 induction h with
 |sc x=>exact .sc x
 |agg l vs hs _ ih=>simp only [AV.dm,kj];exact .agg _ vs (by simp [hs]) (fun i a v ha hv=>by
  rw [List.getElem?_map,Option.map_eq_some_iff] at ha;obtain ⟨b,hb,rfl⟩:=ha;exact ih i b v hb hv)
 |gi l vs hs _ ih=>simp only [AV.dm,kj];exact .gi _ vs (by simp [hs]) (fun i a v ha hv=>by
  rw [List.getElem?_map,Option.map_eq_some_iff] at ha;obtain ⟨b,hb,rfl⟩:=ha;exact ih i b v hb hv)
 |vl loc sz es b off cap c hsz hl hcap h _ hw ih=>
  have hfm:(es.map (AV.dm τ)).flatMap AV.cells=(es.flatMap AV.cells).map (AV.dm τ):=by
   rw [List.flatMap_map,List.map_flatMap];congr 1;funext x;exact Yu τ x
  simp only [AV.dm,kj]
  have:=Rel.vl (g:=g.dm N) (w:=w) loc sz (es.map (AV.dm τ)) b off cap c (fun e he=>by
   obtain ⟨x,hx,rfl⟩:=List.mem_map.1 he;rw [Yu];simp [hsz x hx]) hl (by simpa using hcap)
   (fun j a hj=>by rw [hfm,List.getElem?_map,Option.map_eq_some_iff] at hj;obtain ⟨x,hx,rfl⟩:=hj;exact h j x hx)
   (fun j a hj=>by rw [hfm,List.getElem?_map,Option.map_eq_some_iff] at hj;obtain ⟨x,hx,rfl⟩:=hj;exact ih j x hx) (fun e=>by
    have:=hw e
    rw [List.length_map]
    exact ⟨this.K,this.sg,this.none,this.cm⟩)
  simpa using this
 |kf loc sz=>exact .kf loc sz
 |sk loc sz a=>exact .sk loc sz a
 |sl o off len sz b base cap h1 hc hm hr=>
  simp only [AV.dm]
  cases hp : τ o with
  |none=>exact .bad _
  |some p=>exact .sl p off len sz b base cap (hi o p _ hp h1) hc hm hr
 |sx o off sz a=>
  simp only [AV.dm]
  cases hp : τ o with
  |none=>exact .bad _
  |some p=>exact .sx p off sz a
 |tu o off sz=>
  simp only [AV.dm]
  cases hp : τ o with
  |none=>exact .bad _
  |some p=>exact .tu p off sz
 |ez a=>exact .ez a
 |ptr o off b base h1=>
  simp only [AV.dm]
  cases hp : τ o with
  |none=>exact .bad _
  |some p=>exact .ptr p off b base (hi o p _ hp h1)
 |dj l b off c h _ ih=>
  simp only [AV.dm,kj]
  exact .dj _ b off c (fun j a hj=>by rw [List.getElem?_map,Option.map_eq_some_iff] at hj;obtain ⟨x,hx,rfl⟩:=hj;exact h j x hx)
   (fun j a hj=>by rw [List.getElem?_map,Option.map_eq_some_iff] at hj;obtain ⟨x,hx,rfl⟩:=hj;exact ih j x hx)
 |fn f first captured va vb hs _ hs' _ ih ih'=>
  simp only [AV.dm,kj]
  exact .fn f _ _ va vb (by simp [hs]) (fun i a v ha hv=>by rw [List.getElem?_map,Option.map_eq_some_iff] at ha;obtain ⟨b,hb,rfl⟩:=ha;exact ih i b v hb hv)
   (by simp [hs']) (fun i a v ha hv=>by rw [List.getElem?_map,Option.map_eq_some_iff] at ha;obtain ⟨b,hb,rfl⟩:=ha;exact ih' i b v hb hv)
 |mp o b base h1=>
  simp only [AV.dm]
  cases hp : τ o with
  |none=>exact .bad _
  |some p=>exact .mp p b base (hi o p _ hp h1)
 |qe t a v _ ih=>exact .qe t _ v ih
 |yl o b base h1=>exact .bad _
 |bad v=>exact .bad v
theorem n6.dm {g w b base} {τ:Nat→Option Nat} {N:List Nat} (hτ:∀ o p,τ o=some p→N[p]? = some o) {x y:bh} (h:n6 g w b base x) (hy:x.dm τ=some y):n6 (g.dm N) w b base y:=by
 cases x with
 |row cells k st et=>
  simp only [bh.dm,Option.some.injEq] at hy
  subst hy
  obtain ⟨cs,fr,h1,h2,h3,h4,h5,h6,h7⟩:=h
  rw [kj]
  exact ⟨cs,fr,h1,by simpa using h2,fun j a ha=>by
   rw [List.getElem?_map,Option.map_eq_some_iff] at ha
   obtain ⟨x,hx,rfl⟩:=ha
   obtain ⟨c,hc,hr⟩:=h3 j x hx
   exact ⟨c,hc,hr.dm hτ⟩,h4,h5,h6,by simpa using h7⟩
 |map es=>
  simp only [bh.dm,Option.some.injEq] at hy
  subst hy
  obtain ⟨h0,ms,clock,h1,h2⟩:=h
  refine ⟨h0,ms,clock,h1,h2.same (by simp) (fun hl=>?_) fun i e v he=>?_⟩
  ·have key:∀ (l:List (Value × AV)) (f:Value × AV→Value × AV),(∀ e,(f e).1=e.1)→Ci (l.map f)=Ci l:=by
    intro l f hf
    induction l with
    |nil=>rfl
    |cons a l ih=>simp only [List.map_cons,Ci,ih,List.all_map];congr 2;funext x;simp [hf]
   unfold loose at hl ⊢
   rw [key es (fun e=>(e.1,e.2.dm τ)) (fun _=>rfl)]
   simpa using hl
  ·rw [List.getElem?_map,Option.map_eq_some_iff] at he
   obtain ⟨x,hx,rfl⟩:=he
   exact ⟨x,hx,rfl,fun hr=>hr.dm hτ⟩
 |loop=>cases hy
theorem Qw (a:Nat) (l:List Nat) (o i:Nat):idx (a::l) o i=if a=o then some i else idx l o (i+1):=by
 show (bif Nat.beq a o then some i else idx l o (i+1))=_
 by_cases h:a=o
 ·subst h;simp
 ·rw [if_neg h,ou h];rfl
theorem ahk:∀ (l:List Nat) (o i p:Nat),idx l o i=some p→i≤p∧l[p - i]? = some o
 | [],o,i,p,h=>by cases h
 |a::l,o,i,p,h=>by
  rw [Qw] at h
  by_cases e:a=o
  ·rw [if_pos e] at h;simp at h;subst h;subst e;simp
  ·rw [if_neg e] at h
   obtain ⟨h1,h2⟩:=ahk l o (i+1) p h
   refine ⟨by omega,?_⟩
   rw [show p - i=(p - (i+1))+1 from by omega]
   simpa using h2
theorem Uw (l:List Nat) (o p:Nat) (h:idx l o 0=some p):l[p]? = some o:=by simpa using (ahk l o 0 p h).2
theorem xr (h:Tr bh):∀ (n:Nat) (todo acc:List Nat),acc.Nodup→(reach h n todo acc).Nodup∧(∃ r,reach h n todo acc=acc++r)∧(reach h n todo acc).length≤acc.length+n:=by
 intro n
 induction n with
 |zero=>intro todo acc hn;exact ⟨by simpa [reach] using hn,⟨[],by simp [reach]⟩,by simp [reach]⟩
 |succ n ih=>
  intro todo acc hn
  cases todo with
  |nil=>exact ⟨by simpa [reach] using hn,⟨[],by simp [reach]⟩,by simp [reach]⟩
  |cons o r=>
   simp only [reach]
   cases hc:acc.contains o with
   |true=>
    obtain ⟨h1,h2,h3⟩:=ih r acc hn
    exact ⟨h1,h2,by simp only [cond_true];omega⟩
   |false=>
    simp only [cond_false]
    have hno:o ∉ acc:=by simpa using hc
    cases hg:h.get o with
    |none=>
     obtain ⟨h1,h2,h3⟩:=ih r acc hn
     exact ⟨h1,h2,by dsimp only;omega⟩
    |some x=>
     have hn':(acc++[o]).Nodup:=by
      rw [List.nodup_append]
      exact ⟨hn,by simp,fun a ha b hb=>by simp at hb;subst hb;intro e;subst e;exact hno ha⟩
     obtain ⟨h1,⟨q,h2⟩,h3⟩:=ih (x.names++r) (acc++[o]) hn'
     refine ⟨h1,⟨o::q,by simp [h2]⟩,?_⟩
     simp only [List.length_append,List.length_singleton] at h3
     dsimp only
     omega
theorem Df:∀ (n lo i:Nat),i<n→(dw lo n)[i]? = some (lo+i)
 |0,lo,i,h=>by omega
 |n+1,lo,0,h=>by simp [dw]
 |n+1,lo,i+1,h=>by
  rw [dw,List.getElem?_cons_succ,Df n (lo+1) i (by omega),Nat.add_assoc,Nat.add_comm 1 i]
theorem nk:∀ (n lo o:Nat),o ∈ dw lo n↔lo≤o∧o<lo+n
 |0,lo,o=>by simp [dw]
 |n+1,lo,o=>by rw [dw,List.mem_cons,nk n (lo+1) o];omega
theorem ja:∀ (n lo:Nat),(dw lo n).length=n
 |0,_=>rfl
 |n+1,lo=>by simp [dw,ja n]
theorem p9:∀ (n lo:Nat),(dw lo n).Nodup
 |0,_=>by simp [dw]
 |n+1,lo=>by
  rw [dw,List.nodup_cons]
  exact ⟨by rw [nk];omega,p9 n (lo+1)⟩
theorem u7:∀ (os:List (Option bh)) (i j:Nat),i+os.length≤di+1→(ll i os).get j=if i≤j then (os[j - i]?).join else none
 | [],i,j,_=>by simp [ll,Tr.get_nil]
 |x::r,i,j,h=>by
  simp only [List.length_cons] at h
  rw [ll,ji _ _ _ _ (by omega),u7 r (i+1) j (by omega)]
  by_cases e:j=i
  ·subst e;simp
  ·rw [if_neg e]
   by_cases h1:i+1≤j
   ·rw [if_pos h1,if_pos (by omega),show j - i=(j - (i+1))+1 from by omega,List.getElem?_cons_succ]
   ·rw [if_neg h1,if_neg (by omega)]
theorem vk (h:Tr bh) (τ:Nat→Option Nat):∀ (l:List Nat) (i:Nat),(j7 h τ l)[i]? = (l[i]?).map (fun o=>(h.get o).bind (bh.dm τ))
 | [],i=>by simp [j7]
 |o::r,0=>by simp [j7]
 |o::r,i+1=>by simp [j7,vk h τ r i]
theorem i7 (h:Tr bh) (τ:Nat→Option Nat):∀ l:List Nat,(j7 h τ l).length=l.length
 | []=>rfl
 |_::r=>by simp [j7,i7 h τ r]
theorem Vx:∀ (keep:List Nat) (f:Nat→AV) (t:Nat),lk (ic keep (keep.map f)) t=if t ∈ keep then f t else .bad
 | [],f,t=>by simp [ic,lk]
 |k::ks,f,t=>by
  simp only [List.map_cons,ic,mz,Vx ks f t,List.mem_cons]
  by_cases e:k=t
  ·subst e;simp
  ·rw [if_neg e]
   by_cases h:t ∈ ks
   ·simp [h]
   ·simp [h,Ne.symm e]
theorem D7 {B:dy} {nt:NT} {g:Gh} {st:St} {w:World} {L:SL} {tmps:Array Value} (hnf:B.j5) (hp:B.az≤1000) (keep:List Nat) (hc:js B g st w) (hr:ig g w nt L tmps) :
 js B (g.dm (gq B.az keep L st)) (bf (ey B.az keep L st)) w∧ig (g.dm (gq B.az keep L st)) w nt (ic keep (gv B.az keep L st)) tmps:=by
 have hN:=xr st.h fk (AV.names.go (keep.map (lk L))++nf st.h (dw 0 B.az)) (dw 0 B.az) (p9 _ _)
 change (gq B.az keep L st).Nodup∧(∃ r,gq B.az keep L st=dw 0 B.az++r)∧(gq B.az keep L st).length≤_ at hN
 have hτ:∀ o p,(fun o=>idx (gq B.az keep L st) o 0) o=some p→(gq B.az keep L st)[p]? = some o:=fun o p h=>Uw _ o p h
 unfold ey gv
 generalize gq B.az keep L st=N at hN hτ
 obtain ⟨hnd,⟨rest,hpre⟩,hlen⟩:=hN
 rw [ja] at hlen
 have hlim:N.length≤di:=by simp only [fk,di] at *;omega
 have ed:∀ i x,(bf (j7 st.h (fun o=>idx N o 0) N)).h.get i=some x→∃ o y,N[i]? = some o∧st.h.get o=some y∧y.dm (fun o=>idx N o 0)=some x:=by
  intro i x hx
  simp only [bf] at hx
  rw [u7 _ _ _ (by rw [i7];omega),if_pos (Nat.zero_le _),Nat.sub_zero,vk] at hx
  cases hi:N[i]? with
  |none=>rw [hi] at hx;cases hx
  |some o=>
   rw [hi] at hx
   simp only [Option.map_some,Option.join_some] at hx
   cases hy:st.h.get o with
   |none=>rw [hy] at hx;cases hx
   |some y=>rw [hy] at hx;exact ⟨o,y,rfl,hy,hx⟩
 have hinj:∀ i o,N[i]? = some o→(g.dm N).inj i=g.inj o:=fun i o h=>by simp [Gh.dm,h]
 refine ⟨⟨⟨hc.ok.size,fun i x hx=>?_,fun i j x y b base base' hij hx hy hb hb'=>?_,hc.ok.K⟩,fun i hi=>?_,?_,?_⟩,hr.1,fun t=>?_⟩
 ·obtain ⟨o,y,h1,h2,h3⟩:=ed i x hx
  refine (hc.ok.qg o y h2).imp (fun q=>⟨by rw [hinj i o h1];exact q.1,by obtain ⟨s0,e0,rfl⟩:=q.2;simp only [bh.dm,AV.dm.go,Option.some.injEq] at h3;exact ⟨s0,e0,h3.symm⟩⟩) ?_
  rintro ⟨b,base,q1,q2,q3⟩
  exact ⟨b,base,by rw [hinj i o h1];exact q1,q2,q3.dm hτ h3⟩
 ·obtain ⟨o,y1,h1,h2,_⟩:=ed i x hx
  obtain ⟨o',y2,h1',h2',_⟩:=ed j y hy
  rw [hinj i o h1] at hb
  rw [hinj j o' h1'] at hb'
  have hne:o≠o':=by
   intro e
   subst e
   obtain ⟨hi,ei⟩:=List.getElem?_eq_some_iff.1 h1
   obtain ⟨hj,ej⟩:=List.getElem?_eq_some_iff.1 h1'
   exact hij ((List.getElem_inj hnd).1 (ei.trans ej.symm))
  exact hc.ok.sep o o' _ _ b base base' hne h2 h2' hb hb'
 ·simp only [bf,i7] at hi
  intro _;simp [Gh.dm,List.getElem?_eq_none hi]
 ·have b:=hc.base
  refine ⟨b.b0,fun o ho=>?_,b.K,b.cell,b.size,b.os,b.tape,b.output,b.frame,fun i c base hi hj=>?_,b.oj,b.sg,b.lp,b.whole⟩
  ·have ho:=ho.resolve_right (hnf o)
   rw [hinj o o (by rw [hpre,List.getElem?_append_left (by rw [ja];exact ho),Df _ _ _ ho,Nat.zero_add])]
   exact b.pins o (.inl ho)
  ·obtain ⟨x,hx⟩:=Option.isSome_iff_exists.1 hi
   obtain ⟨o,y,h1,h2,_⟩:=ed i x hx
   rw [hinj i o h1] at hj
   exact b.own o c base (by rw [h2];rfl) hj
 ·simp only [bf,i7]
  rw [hpre,List.length_append,ja]
  omega
 ·rw [kj,List.map_map,Vx]
  by_cases h:t ∈ keep
  ·rw [if_pos h];exact (hr.2 t).dm hτ
  ·rw [if_neg h];exact .bad _
def rh (az:Nat) (vs:List AV) (os:List (Option bh)):List Nat:=reach (bf os).h fk (AV.names.go vs++nf (bf os).h (dw 0 az)) (dw 0 az)
theorem jo.canon {az:Nat} {vs:List AV} {os:List (Option bh)} (hp:az≤1000) :
 jo az vs os (AV.dm.go (fun o=>idx (rh az vs os) o 0) vs) (j7 (bf os).h (fun o=>idx (rh az vs os) o 0) (rh az vs os)):=by
 have hN:=xr (bf os).h fk (AV.names.go vs++nf (bf os).h (dw 0 az)) (dw 0 az) (p9 _ _)
 change (rh az vs os).Nodup∧(∃ r,rh az vs os=dw 0 az++r)∧(rh az vs os).length≤_ at hN
 have hτ:∀ o p,(fun o=>idx (rh az vs os) o 0) o=some p→(rh az vs os)[p]? = some o:=fun o p h=>Uw _ o p h
 generalize rh az vs os=N at hN hτ
 obtain ⟨hnd,⟨rest,hpre⟩,hlen⟩:=hN
 rw [ja] at hlen
 have hlim:N.length≤di:=by simp only [fk,di] at *;omega
 refine ⟨by rw [kj,List.length_map],fun _=>by rw [i7,hpre,List.length_append,ja];omega,fun g w us hok hf hr=>⟨g.dm N,?_⟩⟩
 have ed:∀ i x,(bf (j7 (bf os).h (fun o=>idx N o 0) N)).h.get i=some x→∃ o y,N[i]? = some o∧(bf os).h.get o=some y∧y.dm (fun o=>idx N o 0)=some x:=by
  intro i x hx
  rw [show (bf (j7 (bf os).h (fun o=>idx N o 0) N)).h=ll 0 (j7 (bf os).h (fun o=>idx N o 0) N) from rfl,u7 _ _ _ (by rw [i7];omega),if_pos (Nat.zero_le _),Nat.sub_zero,vk] at hx
  cases hi:N[i]? with
  |none=>rw [hi] at hx;cases hx
  |some o=>
   rw [hi] at hx
   simp only [Option.map_some,Option.join_some] at hx
   cases hy:(bf os).h.get o with
   |none=>rw [hy] at hx;cases hx
   |some y=>rw [hy] at hx;exact ⟨o,y,rfl,hy,hx⟩
 have hinj:∀ i o,N[i]? = some o→(g.dm N).inj i=g.inj o:=fun i o h=>by simp [Gh.dm,h]
 refine ⟨⟨hok.size,fun i x hx=>?_,fun i j x y b base base' hij hx hy hb hb'=>?_,hok.K⟩,?_,rfl,fun o ho=>?_,fun o ho=>?_,fun _ _ h=>h,fun i b base hi hj=>?_,fun _ _ h=>.inl h⟩
 ·obtain ⟨o,y,h1,h2,h3⟩:=ed i x hx
  refine (hok.qg o y h2).imp (fun q=>⟨by rw [hinj i o h1];exact q.1,by obtain ⟨s0,e0,rfl⟩:=q.2;simp only [bh.dm,AV.dm.go,Option.some.injEq] at h3;exact ⟨s0,e0,h3.symm⟩⟩) ?_
  rintro ⟨b,base,q1,q2,q3⟩
  exact ⟨b,base,by rw [hinj i o h1];exact q1,q2,q3.dm hτ h3⟩
 ·obtain ⟨o,y1,h1,h2,_⟩:=ed i x hx
  obtain ⟨o',y2,h1',h2',_⟩:=ed j y hy
  rw [hinj i o h1] at hb
  rw [hinj j o' h1'] at hb'
  have hne:o≠o':=by
   intro e
   subst e
   obtain ⟨hi,ei⟩:=List.getElem?_eq_some_iff.1 h1
   obtain ⟨hj,ej⟩:=List.getElem?_eq_some_iff.1 h1'
   exact hij ((List.getElem_inj hnd).1 (ei.trans ej.symm))
  exact hok.sep o o' _ _ b base base' hne h2 h2' hb hb'
 ·rw [kj]
  refine ⟨by simpa using hr.1,fun i a v ha hv=>?_⟩
  rw [List.getElem?_map,Option.map_eq_some_iff] at ha
  obtain ⟨x,hx,rfl⟩:=ha
  exact (hr.2 i x v hx hv).dm hτ
 ·rw [i7] at ho
  simp [Gh.dm,List.getElem?_eq_none ho]
 ·rw [hinj o o (by rw [hpre,List.getElem?_append_left (by rw [ja];exact ho),Df _ _ _ ho,Nat.zero_add])]
 ·obtain ⟨x,hx⟩:=Option.isSome_iff_exists.1 hi
  obtain ⟨o,y,h1,h2,_⟩:=ed i x hx
  rw [hinj i o h1] at hj
  exact ⟨o,base,by rw [h2];rfl,hj⟩
theorem By {B:dy} {D:List Deferred} {n0:Nat} {g:Gh} {st:St} {w:World} {L:SL} {ds:List Deferred} (hp:B.az≤1000) (keep:List Nat) (hd:Marks D n0 st.h g w ds) :
 Marks D n0 (bf (ey B.az keep L st)).h (g.dm (gq B.az keep L st)) w ds:=by
 have hN:=xr st.h fk (AV.names.go (keep.map (lk L))++nf st.h (dw 0 B.az)) (dw 0 B.az) (p9 _ _)
 change (gq B.az keep L st).Nodup∧(∃ r,gq B.az keep L st=dw 0 B.az++r)∧(gq B.az keep L st).length≤_ at hN
 unfold ey
 generalize gq B.az keep L st=N at hN
 obtain ⟨hnd,⟨rest,hpre⟩,hlen⟩:=hN
 rw [ja] at hlen
 have hlim:N.length≤di:=by simp only [fk,di] at *;omega
 obtain ⟨bs,h1,h2,h3⟩:=hd
 refine ⟨bs,h1,h2,fun b hb=>⟨(h3 b hb).1,(h3 b hb).2.1,fun i base hi hj=>?_⟩⟩
 obtain ⟨x,hx⟩:=Option.isSome_iff_exists.1 hi
 simp only [bf] at hx
 rw [u7 _ _ _ (by rw [i7];omega),if_pos (Nat.zero_le _),Nat.sub_zero,vk] at hx
 cases hi':N[i]? with
 |none=>rw [hi'] at hx;cases hx
 |some o=>
  rw [hi'] at hx
  simp only [Option.map_some,Option.join_some] at hx
  cases hy:st.h.get o with
  |none=>rw [hy] at hx;cases hx
  |some y=>
   have:(g.dm N).inj i=g.inj o:=by simp [Gh.dm,hi']
   rw [this] at hj
   exact (h3 b hb).2.2 o base (by rw [hy];rfl) hj
theorem z7 {F:Fence} {n:Nat} {P:Program} [KP P] {c:Code} {Q:Exit→Act→World→Prop} {a:Act} {w:World} (h:∀ X:Act→World→Prop,(∀ a w,c.wpIn F n P (Exit.then X Q) a w→X a w)→X a w):(Code.loop c).wpIn F n P Q a w:=by
 intro b k cs hro hb hr
 have key:=h (fun a w=>∃ e a' w',Q e a' w'∧ArrivesIn (Machine.fenced P F) P (lone (b.atR a (.code c :: .inLoop c::k)) cs w) b k cs e a' w') (fun a w hw=>by
  obtain ⟨e,a₁,w₁,hq,harr⟩:=hw b (.inLoop c::k) cs hro hb hr
  cases e with
  |normal=>
   obtain ⟨e₂,a₂,w₂,hq₂,harr₂⟩:=hq
   exact ⟨e₂,a₂,w₂,hq₂,.of_steps (StepsIn.trans harr (.one (fenced_calm hb hr rfl) stepR_inLoop)) harr₂⟩
  |exit id=>exact ⟨_,a₁,w₁,hq,.pass (x:=.inLoop c) rfl (fun _ _=>.inl (by simp)) harr⟩
  |goto l=>exact ⟨_,a₁,w₁,hq,.pass (x:=.inLoop c) rfl (fun _ _=>.inl (by simp)) harr⟩
  |ret=>exact ⟨_,a₁,w₁,hq,.pass (x:=.inLoop c) rfl (fun _ _=>.inl (by simp)) harr⟩
  |panic ch=>exact ⟨_,a₁,w₁,hq,.pass (x:=.inLoop c) rfl (fun _ _=>.inl (by simp)) harr⟩
  |outgrown=>exact ⟨_,a₁,w₁,hq,.pass (x:=.inLoop c) rfl (fun _ _=>.inl (by simp)) harr⟩)
 obtain ⟨e,a',w',hq,harr⟩:=key
 exact ⟨e,a',w',hq,.of_steps (.one (fenced_calm hb hr rfl) stepR_loop) harr⟩
def P2 (P:Program) (ro:Option Nat) (N:Nat) (B:dy) (nt:NT) (c:Code) (W:QL→SL→St→Prop):Prop:=
 ∀ (Q:QL) (L:SL) (st:St) (g:Gh) (w:World) (a:Act),W Q L st→js B g st w→ig g w nt L a.tmps→Marks B.D B.n0 st.h g w a.defers→c.wpIn (eh ro) N P (Fin B nt Q) a w
theorem al5 (az:Nat) (keep:List Nat) (L:SL) (st:St):gv az keep L st=keep.map (fun t=>(lk L t).dm (fun o=>idx (gq az keep L st) o 0)):=by
 unfold gv
 rw [kj,List.map_map]
 rfl
theorem ap3 {g w nt} {keep:List Nat} {L:SL} {tmps:Array Value} (f:Nat→AV) (hr:ig g w nt (ic keep (keep.map f)) tmps):bm g w (keep.map f) (keep.map fun t=>tmps.getD t undef):=by
 refine ⟨by simp,fun i a v ha hv=>?_⟩
 rw [List.getElem?_map,Option.map_eq_some_iff] at ha hv
 obtain ⟨t,ht,rfl⟩:=ha
 obtain ⟨t',ht',rfl⟩:=hv
 rw [ht] at ht';cases ht'
 have:=hr.2 t
 rw [Vx,if_pos (List.mem_of_getElem? ht)] at this
 exact this
theorem ai8 {g w nt} {tmps:Array Value} (hs:pv nt tmps):∀ (keep:List Nat) (vs:List AV),bm g w vs (keep.map fun t=>tmps.getD t undef)→ig g w nt (ic keep vs) tmps:=by
 intro keep vs h
 refine ⟨hs,fun t=>?_⟩
 induction keep generalizing vs with
 |nil=>exact .bad _
 |cons k ks ih=>
  cases vs with
  |nil=>exact .bad _
  |cons v vs=>
   rw [List.map_cons] at h
   simp only [ic,mz]
   by_cases e:k=t
   ·subst e;rw [if_pos rfl];exact h.head
   ·rw [if_neg e];exact ih vs h.tail
theorem M0 {B:dy} {nt:NT} {g:Gh} {st:St} {w:World} {L:SL} {tmps:Array Value} (hnf:B.j5) (hp:B.az≤1000) (keep:List Nat) {X:List AV→List (Option bh)→Prop} (h:upW B.az X (gv B.az keep L st) (ey B.az keep L st)) (hc:js B g st w) (hr:ig g w nt L tmps) :
 ∃ vs os g',X vs os∧js B g' (bf os) w∧ig g' w nt (ic keep vs) tmps∧(∀ D n0 ds,Marks D n0 (bf (ey B.az keep L st)).h (g.dm (gq B.az keep L st)) w ds→Marks D n0 (bf os).h g' w ds)∧(∀ b,ir (g.dm (gq B.az keep L st)) (bf (ey B.az keep L st)).h b→ir g' (bf os).h b):=by
 obtain ⟨vs',os',hw,hx⟩:=h
 have:=D7 hnf hp keep hc hr
 have hv:=al5 B.az keep L st
 have hrl:=this.2
 rw [hv] at hrl
 have hk:=ap3 (L:=L) _ hrl
 rw [← hv] at hk
 obtain ⟨h1,h2,h3⟩:=hw
 obtain ⟨g',q1,q2,q3,q4,q4',q5,q6,q7⟩:=h3 _ w _ this.1.ok (fun o ho=>this.1.fresh o (by simpa [bf] using ho) (hnf o)) hk
 have b:=this.1.base
 refine ⟨vs',os',g',hx,⟨q1,fun o ho hf=>q4 o (by simpa [bf] using ho),⟨q3.trans b.b0,fun o ho=>by rw [q4' o (ho.resolve_right (hnf o))];exact b.pins o ho,fun b' j hk=>q5 _ _ (b.K b' j hk),b.cell,b.size,b.os,b.tape,b.output,b.frame,fun o c base ho hi=>?_,fun c j hk=>?_,b.sg,b.lp,b.whole⟩,by have:=h2 (by simpa [bf] using this.1.az);simpa [bf] using this⟩,ai8 hr.1 keep vs' q2,fun D n0 ds hm=>?_,fun b hu o base ho hi=>by
  obtain ⟨o2,base2,e1,e2⟩:=q6 o _ base ho hi
  exact hu o2 base2 e1 e2⟩
 ·obtain ⟨o2,base2,e1,e2⟩:=q6 o c base ho hi
  exact b.own o2 c base2 e1 e2
 ·rcases q7 c j hk with h4|⟨o,base,h4,h5⟩
  ·exact b.oj c j h4
  ·exact .inr (b.own o c base h4 h5)
 ·obtain ⟨bs,e1,e2,e3⟩:=hm
  exact ⟨bs,e1,e2,fun b hb=>⟨(e3 b hb).1,(e3 b hb).2.1,fun o base ho hi=>by
   obtain ⟨o2,base2,p1,p2⟩:=q6 o _ base ho hi
   exact (e3 b hb).2.2 o2 base2 p1 p2⟩⟩
theorem awa {P:Program} [KP P] {ro:Option Nat} {N:Nat} {B:dy} {nt:NT} {c:Code} {W:QL→SL→St→Prop} (hnf:B.j5) (hp:B.az≤1000) (h:P2 P ro N B nt c W):P2 P ro N B nt (.loop c) (se B.az W):=by
 intro Q L st g w a hw hc hr hd
 obtain ⟨keep,hw⟩:=hw
 refine z7 fun Y hY=>?_
 have head:∀ (L:SL) (st:St) (g:Gh) (w:World) (a:Act),upW B.az (fun vs os=>∀ g w a,js B g (bf os) w→ig g w nt (ic keep vs) a.tmps→Marks B.D B.n0 (bf os).h g w a.defers→Y a w) (gv B.az keep L st) (ey B.az keep L st)→js B g st w→ig g w nt L a.tmps→Marks B.D B.n0 st.h g w a.defers→Y a w:=by
  intro L st g w a hh hc hr hd
  obtain ⟨vs',os',g',hx,k1,k2,k3,_⟩:=M0 hnf hp keep hh hc hr
  exact hx g' w a k1 k2 (k3 _ _ _ (By hp keep hd))
 have hX:=hw (fun vs os=>∀ g w a,js B g (bf os) w→ig g w nt (ic keep vs) a.tmps→Marks B.D B.n0 (bf os).h g w a.defers→Y a w) (fun vs os hb g w a hc hr hd=>by
  refine hY a w (wpIn_mono (h _ _ _ g w a hb hc hr hd) ?_)
  rintro ex a' w' ⟨e,L',st',g',rfl,hq,hc',hr',hd'⟩
  cases e with
  |normal=>exact head _ _ _ _ _ hq hc' hr' hd'
  |exit id=>exact ⟨.exit id,L',st',g',rfl,hq,hc',hr',hd'⟩
  |ret=>exact ⟨.ret,L',st',g',rfl,hq,hc',hr',hd'⟩)
 exact head _ _ _ _ _ hX hc hr hd
theorem se.asi {α:Type} {az:Nat} {B:QL→SL→St→Prop} {Q:QL} {L:SL} {st:St} (keep:List Nat) (V : α→List AV) (O : α→List (Option bh)) (I : α→Prop) (μ : α→Nat) (x : α) (hx:I x)
 (hv:jo az (gv az keep L st) (ey az keep L st) (V x) (O x))
 (hmono:∀ (Q Q':QL),(∀ e L st,Q e L st→Q' e L st)→∀ L st,B Q L st→B Q' L st)
 (step:∀ x,I x→B (vw az keep (fun vs os=>∃ y,I y ∧ μ y < μ x∧jo az vs os (V y) (O y)) Q) (ic keep (V x)) (bf (O x))):se az B Q L st:=by
 refine ⟨keep,fun X hX=>⟨_,_,hv,?_⟩⟩
 have key:∀ n x,μ x=n→I x→X (V x) (O x):=by
  intro n
  induction n using Nat.strongRecOn with
  |_ n ih=>
   intro x hn hi
   refine hX _ _ (hmono _ _ ?_ _ _ (step x hi))
   intro e L' st' hq
   cases e with
   |normal=>
    obtain ⟨y,h1,h2,h3⟩:=hq
    exact ⟨_,_,h3,ih (μ y) (by omega) y rfl h1⟩
   |exit id=>exact hq
   |ret=>exact hq
 exact key _ x rfl hx
theorem se.of {α:Type} {az:Nat} {B:QL→SL→St→Prop} {Q:QL} {L:SL} {st:St} (keep:List Nat) (V : α→List AV) (O : α→List (Option bh)) (I : α→Prop) (μ : α→Nat) (x : α) (hx:I x)
 (hv:gv az keep L st=V x) (ho:ey az keep L st=O x)
 (hmono:∀ (Q Q':QL),(∀ e L st,Q e L st→Q' e L st)→∀ L st,B Q L st→B Q' L st)
 (step:∀ x,I x→B (vw az keep (fun vs os=>∃ y,I y ∧ μ y < μ x∧vs=V y∧os=O y) Q) (ic keep (V x)) (bf (O x))):se az B Q L st:=
 se.asi keep V O I μ x hx (by rw [hv,ho];exact .refl _ _ _) hmono (fun x hi=>hmono _ _ (fun e L' st' hq=>by
  cases e with
  |normal=>
   obtain ⟨y,h1,h2,h3,h4⟩:=hq
   refine ⟨y,h1,h2,?_⟩
   rw [h3,h4];exact .refl _ _ _
  |exit id=>exact hq
  |ret=>exact hq) _ _ (step x hi))
theorem Ck (h:Tr bh):∀ (F:List Nat) (o:Nat),(∀ p ∈ F,p≤di)→(qc h F).get o=if o ∈ F then h.get o else none
 | [],o,_=>by simp [qc,Tr.get_nil]
 |p::r,o,hl=>by
  rw [qc,ji _ _ _ _ (hl p (by simp)),Ck h r o (fun q hq=>hl q (by simp [hq]))]
  by_cases e:o=p
  ·subst e;simp
  ·rw [if_neg e];simp [e]
theorem Aa (h1 h:Tr bh):∀ (F:List Nat) (o:Nat),(∀ p ∈ F,p≤di)→(tv h1 F h).get o=if o ∈ F then h1.get o else h.get o
 | [],o,_=>by simp [tv]
 |p::r,o,hl=>by
  rw [tv,ji _ _ _ _ (hl p (by simp)),Aa h1 h r o (fun q hq=>hl q (by simp [hq]))]
  by_cases e:o=p
  ·subst e;simp
  ·rw [if_neg e];simp [e]
theorem Ok.part {g h hm w} (hok:Ok g h w) (hs:∀ o x,hm.get o=some x→h.get o=some x):Ok g hm w:=
 ⟨hok.size,fun o x hx=>hok.qg o x (hs o x hx),fun o o' x x' b base base' hne hx hx'=>hok.sep o o' x x' b base base' hne (hs o x hx) (hs o' x' hx'),hok.K⟩
theorem al2 {g h hm w lo hi g' hm' w' h'} {S:Nat→Prop} (hok:Ok g h w) (hs:∀ o x,hm.get o=some x→h.get o=some x) (hdom:∀ o x,hm.get o=some x→S o)
 (hstep:Step g hm w lo hi g' hm' w') (hok':Ok g' hm' w') (h1:∀ o,S o→h'.get o=hm'.get o) (h2:∀ o,¬ S o→h'.get o=h.get o) (h3:∀ o,lo≤o→o<hi→S o) :
 Step g h w lo hi g' h' w'∧Ok g' h' w':=by
 have notown:∀ o x b base,h.get o=some x→¬ S o→g.inj o=some (b,base)→∀ o' base',(hm.get o').isSome=true→g.inj o'≠some (b,base'):=by
  intro o x b base ho hS hb o' base' ho' hb'
  obtain ⟨y,hy⟩:=Option.isSome_iff_exists.1 ho'
  have hne:o≠o':=fun e=>hS (by rw [e];exact hdom o' y hy)
  exact hok.sep o o' x y b base base' hne ho (hs o' y hy) hb hb'
 have Ov:∀ o x,h'.get o=some x→¬ S o→(g'.inj o=none∧H0 x)∨∃ b base,g.inj o=some (b,base)∧g.b0≤b∧b<w.heap.size∧h.get o=some x∧n6 g' w' b base x:=by
  intro o x hx hS
  rw [h2 o hS] at hx
  refine (hok.qg o x hx).imp (fun q=>⟨hstep.fresh o q.1 (fun hr=>hS (h3 o hr.1 hr.2)),q.2⟩) ?_
  rintro ⟨b,base,q1,q2,q3⟩
  refine ⟨b,base,q1,q2,q3.lt,hx,q3.ext hstep.ext (hstep.frame b q3.lt (notown o x b base hx hS q1)) (fun j hj=>?_)⟩
  rcases hstep.oj b j hj with h3|h3|⟨o',base',h3,h4⟩
  ·exact h3
  ·have:=q3.lt;omega
  ·exact (notown o x b base hx hS q1 o' base' h3 h4).elim
 have cls:∀ o:Nat,S o∨¬ S o:=fun o=>Classical.em _
 refine ⟨⟨hstep.ext,hstep.size,hstep.os,hstep.tape,hstep.output,fun b hb hn=>?_,hstep.fresh,fun o b base ho hj=>?_,fun b j hK=>?_⟩,⟨?_,fun o x hx=>?_,fun o o' x x' b base base' hne hx hx' hb hb'=>?_,hok'.K⟩⟩
 ·refine hstep.frame b hb (fun o base ho hj=>?_)
  obtain ⟨y,hy⟩:=Option.isSome_iff_exists.1 ho
  exact hn o base (by rw [hs o y hy];rfl) hj
 ·obtain ⟨x,hx⟩:=Option.isSome_iff_exists.1 ho
  rcases cls o with hS|hS
  ·rw [h1 o hS] at hx
   rcases hstep.own o b base (by rw [hx];rfl) hj with h3|⟨o',base',h3,h4⟩
   ·exact .inl h3
   ·obtain ⟨y,hy⟩:=Option.isSome_iff_exists.1 h3
    exact .inr ⟨o',base',by rw [hs o' y hy];rfl,h4⟩
  ·rcases Ov o x hx hS with ⟨q0,_⟩|⟨b',base',q1,q2,q3,q4,q5⟩
   ·rw [q0] at hj;cases hj
   have:=hstep.ext.inj o _ q1
   rw [hj] at this
   cases this
   exact .inr ⟨o,base,by rw [q4];rfl,q1⟩
 ·rcases hstep.oj b j hK with h3|h3|⟨o',base',h3,h4⟩
  ·exact .inl h3
  ·exact .inr (.inl h3)
  ·obtain ⟨y,hy⟩:=Option.isSome_iff_exists.1 h3
   exact .inr (.inr ⟨o',base',by rw [hs o' y hy];rfl,h4⟩)
 ·exact hok'.size
 ·rcases cls o with hS|hS
  ·rw [h1 o hS] at hx;exact hok'.qg o x hx
  ·refine (Ov o x hx hS).imp id ?_
   rintro ⟨b',base',q1,q2,q3,q4,q5⟩
   exact ⟨b',base',hstep.ext.inj o _ q1,by rw [hstep.ext.b0];exact q2,q5⟩
 ·rcases cls o with hS|hS
  ·rcases cls o' with hS'|hS'
   ·rw [h1 o hS] at hx
    rw [h1 o' hS'] at hx'
    exact hok'.sep o o' x x' b base base' hne hx hx' hb hb'
   ·rcases Ov o' x' hx' hS' with ⟨q0,_⟩|⟨b1,base1,q1,q2,q3,q4,q5⟩
    ·rw [q0] at hb';cases hb'
    have:=hstep.ext.inj o' _ q1
    rw [hb'] at this;cases this
    rw [h1 o hS] at hx
    rcases hstep.own o b base (by rw [hx];rfl) hb with h3|⟨o2,base2,h3,h4⟩
    ·omega
    ·exact notown o' x' b base' q4 hS' q1 o2 base2 h3 h4
  ·rcases Ov o x hx hS with ⟨q0,_⟩|⟨b1,base1,q1,q2,q3,q4,q5⟩
   ·rw [q0] at hb;cases hb
   have:=hstep.ext.inj o _ q1
   rw [hb] at this;cases this
   rcases cls o' with hS'|hS'
   ·rw [h1 o' hS'] at hx'
    rcases hstep.own o' b base' (by rw [hx'];rfl) hb' with h3|⟨o2,base2,h3,h4⟩
    ·omega
    ·exact notown o x b base q4 hS q1 o2 base2 h3 h4
   ·rcases Ov o' x' hx' hS' with ⟨q0,_⟩|⟨b2,base2,r1,r2,r3,r4,r5⟩
    ·rw [q0] at hb';cases hb'
    have:=hstep.ext.inj o' _ r1
    rw [hb'] at this;cases this
    exact hok.sep o o' x x' b base base' hne q4 r4 q1 r1
theorem Step.both {g h w lo hi g' h' w' g'' h'' w''} (s:Step g h w lo hi g' h' w') (t:Step g' h' w' lo hi g'' h'' w''):Step g h w lo hi g'' h'' w'':=by
 refine ⟨s.ext.trans t.ext,Nat.le_trans s.size t.size,t.os.trans s.os,t.tape.trans s.tape,t.output.trans s.output,fun b hb hn=>?_,fun o ho hr=>t.fresh o (s.fresh o ho hr) hr,fun o b base ho hj=>?_,fun b j hK=>?_⟩
 ·rw [t.frame b (Nat.lt_of_lt_of_le hb s.size) (fun o base ho hj=>?_),s.frame b hb hn]
  rcases s.own o b base ho hj with hge|⟨o',base',ho',hj'⟩
  ·omega
  ·exact hn o' base' ho' hj'
 ·rcases t.own o b base ho hj with hge|⟨o',base',ho',hj'⟩
  ·exact .inl (Nat.le_trans s.size hge)
  ·exact s.own o' b base' ho' hj'
 ·rcases t.oj b j hK with h|hge|⟨o',base',ho',hj'⟩
  ·exact s.oj b j h
  ·exact .inr (.inl (Nat.le_trans s.size hge))
  ·rcases s.own o' b base' ho' hj' with hge|hx
   ·exact .inr (.inl hge)
   ·exact .inr (.inr hx)
structure DS where
 o:Oper
 L:SL
 st:St
 want:Bool
 v:AV
 fl:St
 R:List Nat
 W:List Nat
def Vf (ops:Array Oper) (L:SL) (o:Oper):Option Bool:=
 match o.guard with
 |none=>some true
 |some (j,b)=>B0 (lk L (tn ops j)) b
structure DSRun (P:Program) (T:dv) (d:DS):Prop where
 run:d.want=true→fo P T d.o (db d.o d.L) { h:=qc d.st.h d.R,nx:=d.st.nx,rl:=[],wl:=[] }=some (d.v,d.fl)∧(∀ p ∈ d.R,p<d.st.nx)∧d.fl.nx≤di ∧
  (∀ o,o ∈ d.W↔(o ∈ d.W∧o ∈ d.R)∨(d.st.nx≤o∧o<d.fl.nx))∧(∀ o ∈ d.R,o ∉ d.W→d.st.h.get o=d.fl.h.get o)
 skip:d.want=false→d.v = .sc undef∧d.fl.nx=d.st.nx∧d.R=[]∧d.W=[]
structure aAz (P:Program) (T:dv) (ops:Array Oper) (d:DS):Prop extends DSRun P T d where
 g:Vf ops d.L d.o=some d.want
def DS.ajt (d:DS):SL:=jl d.o.dst d.v d.L
noncomputable def DS.next (d:DS):St:=bif d.want then { h:=tv d.fl.h (d.R++dw d.st.nx (d.fl.nx - d.st.nx)) d.st.h,nx:=d.fl.nx,rl:=[],wl:=[] } else d.st
def Z0:List DS→SL→St→SL→St→Prop
 | [],L,st,L',st'=>L'=L∧st'=st
 |d::r,L,st,L',st'=>d.L=L∧d.st=st∧Z0 r d.ajt d.next L' st'
theorem af5 {ops:Array Oper} {L:SL} {o:Oper} {x y:Prop} (h:guarded ops L o.guard x y):∃ b,Vf ops L o=some b∧(b=true→x)∧(b=false→y):=by
 unfold guarded at h
 unfold Vf
 cases hg:o.guard with
 |none=>rw [hg] at h;exact ⟨true,rfl,fun _=>h,fun e=>by cases e⟩
 |some q=>
  obtain ⟨j,b⟩:=q
  rw [hg] at h
  exact Rm h
theorem asa {ops:Array Oper} {L:SL} {gd:Option (Nat × Bool)} {x y x' y':Prop} (h1:x→x') (h2:y→y') (h:guarded ops L gd x y):guarded ops L gd x' y':=by
 unfold guarded at *
 split at h
 ·exact h1 h
 ·unfold zx at *
  split at h
  ·exact ⟨fun e=>h1 (h.1 e),fun e=>h2 (h.2 e)⟩
  ·exact h.elim
theorem Rz {P:Program} {T:dv} {o:Oper} {recs:List Rec} {K K':List Rec→SL→St→Prop} {L:SL} {st:St} (hk:∀ r L st,K r L st→K' r L st) (h:Zy P T o recs K L st):Zy P T o recs K' L st:=by
 obtain ⟨F,W,v,fl,h1,h2,h3,h4,h5,h6⟩:=h
 exact ⟨F,W,v,fl,h1,h2,h3,h4,h5,hk _ _ _ h6⟩
theorem aes {P:Program} [KP P] {T:dv} {ops:Array Oper} {K:SL→St→Prop}:∀ (l:List Oper) (recs:List Rec) (L:SL) (st:St),Ej P T ops l K recs L st→J3 P T ops l K recs L st
 | [],_,_,_,h=>h
 |o::r,recs,L,st,h=>asa (fun q=>Rz (fun _ _ _ k=>aes r _ _ _ k) (awz q)) (fun q=>aes r _ _ _ q) h
theorem atb {P:Program} [KP P] {T:dv} {ops:Array Oper} {K:SL→St→Prop}:∀ (l:List Oper) (L:SL) (st:St) (recs:List Rec),J3 P T ops l K recs L st →
 ∃ ds L' st',ds.map (·.o)=l∧(∀ d ∈ ds,aAz P T ops d)∧Z0 ds L st L' st'∧iz (Region.before ops) 0 (recs++ds.map fun d=>⟨d.R,d.W⟩)=true∧K L' st':=by
 intro l
 induction l with
 |nil=>intro L st recs h;exact ⟨[],L,st,rfl,by simp,⟨rfl,rfl⟩,by simpa using h.1,h.2⟩
 |cons o l ih=>
  intro L st recs h
  obtain ⟨b,hb,h1,h2⟩:=af5 h
  cases b with
  |true=>
   obtain ⟨F,W,v,fl,hop,h4,h5,h6,h7,h8⟩:=h1 rfl
   obtain ⟨ds,L',st',e1,e2,e3,e4,e5⟩:=ih _ _ _ h8
   have hle:=uw hop
   refine ⟨{ o,L,st,want:=true,v,fl,R:=F,W:=W++dw st.nx (fl.nx - st.nx) }::ds,L',st',by simp [e1],?_,⟨rfl,rfl,?_⟩,?_,e5⟩
   ·intro d hd
    rcases List.mem_cons.1 hd with rfl|hd
    ·refine ⟨⟨fun _=>⟨hop,h6,h7,fun q=>?_,fun q hq hn=>?_⟩,fun e=>by cases e⟩,hb⟩
     ·simp only [List.mem_append,nk]
      constructor
      ·rintro (hq|hq)
       ·exact .inl ⟨.inl hq,h4 q hq⟩
       ·exact .inr ⟨hq.1,by simp at hle;omega⟩
      ·rintro (hq|hq)
       ·exact hq.1
       ·exact .inr ⟨hq.1,by omega⟩
     ·have:=h5 q hq (fun hw=>hn (List.mem_append.2 (.inl hw)))
      rw [Ck _ _ _ (fun p hp=>by have:=h6 p hp;simp at hle;omega),if_pos hq] at this
      exact this
    ·exact e2 d hd
   ·exact e3
   ·simpa [List.append_assoc] using e4
  |false=>
   have h3:=h2 rfl
   obtain ⟨ds,L',st',e1,e2,e3,e4,e5⟩:=ih _ _ _ h3
   refine ⟨{ o,L,st,want:=false,v:=.sc undef,fl:=st,R:=[],W:=[] }::ds,L',st',by simp [e1],?_,⟨rfl,rfl,?_⟩,?_,e5⟩
   ·intro d hd
    rcases List.mem_cons.1 hd with rfl|hd
    ·exact ⟨⟨(fun e=>by cases e),fun _=>⟨rfl,rfl,rfl,rfl⟩⟩,hb⟩
    ·exact e2 d hd
   ·exact e3
   ·simpa [List.append_assoc] using e4
noncomputable def lr (ds:List DS) (h0:Tr bh) (D:Nat→Bool):Nat→Nat→Option bh
 |0,o=>h0.get o
 |m+1,o=>
  match ds[m]? with
  |some d=>if D m=true∧o ∈ d.W then d.fl.h.get o else lr ds h0 D m o
  |none=>lr ds h0 D m o
def lq (ds:List DS) (L0:SL) (D:Nat→Bool):Nat→Nat→AV
 |0,t=>lk L0 t
 |m+1,t=>
  match ds[m]? with
  |some d=>if D m=true∧d.o.dst=some t then d.v else lq ds L0 D m t
  |none=>lq ds L0 D m t
def n8 (ds:List DS) (n0:Nat):Nat→Nat
 |0=>n0
 |m+1=>
  match ds[m]? with
  |some d=>d.fl.nx
  |none=>n8 ds n0 m
theorem axa (dst:Option Tmp) (v:AV) (L:SL) (t:Nat):lk (jl dst v L) t=if dst=some t then v else lk L t:=by
 cases dst with
 |none=>simp [jl]
 |some d=>simp [jl,mz]
theorem aqy {P:Program} [KP P] {T:dv} {ds:List DS} {L0:SL} {st0:St} {L':SL} {st':St} (hds:∀ d ∈ ds,DSRun P T d) (hc:Z0 ds L0 st0 L' st') :
 (∀ i d,ds[i]? = some d→(∀ t,lk d.L t=lq ds L0 (fun _=>true) i t)∧(∀ o,d.st.h.get o=lr ds st0.h (fun _=>true) i o)∧d.st.nx=n8 ds st0.nx i∧d.st.nx≤d.fl.nx) ∧
 (∀ t,lk L' t=lq ds L0 (fun _=>true) ds.length t)∧(∀ o,st'.h.get o=lr ds st0.h (fun _=>true) ds.length o)∧st'.nx=n8 ds st0.nx ds.length:=by
 have key:∀ (k:Nat) (r:List DS) (L:SL) (st:St),ds.drop k=r→k≤ds.length→Z0 r L st L' st'→(∀ t,lk L t=lq ds L0 (fun _=>true) k t)→(∀ o,st.h.get o=lr ds st0.h (fun _=>true) k o)→st.nx=n8 ds st0.nx k →
  (∀ i d,k≤i→ds[i]? = some d→(∀ t,lk d.L t=lq ds L0 (fun _=>true) i t)∧(∀ o,d.st.h.get o=lr ds st0.h (fun _=>true) i o)∧d.st.nx=n8 ds st0.nx i∧d.st.nx≤d.fl.nx) ∧
  (∀ t,lk L' t=lq ds L0 (fun _=>true) ds.length t)∧(∀ o,st'.h.get o=lr ds st0.h (fun _=>true) ds.length o)∧st'.nx=n8 ds st0.nx ds.length:=by
  intro k r
  induction r generalizing k with
  |nil=>
   intro L st hr hk hch h1 h2 h3
   have hlen:k=ds.length:=by
    have:=congrArg List.length hr;simp at this;omega
   obtain ⟨rfl,rfl⟩:=hch
   subst hlen
   refine ⟨fun i d hi hd=>?_,h1,h2,h3⟩
   rw [List.getElem?_eq_none hi] at hd;cases hd
  |cons d r ih=>
   intro L st hr hk hch h1 h2 h3
   obtain ⟨rfl,rfl,hch⟩:=hch
   have hk':k<ds.length:=by
    rcases Nat.lt_or_ge k ds.length with h|h
    ·exact h
    ·rw [List.drop_eq_nil_of_le h] at hr;cases hr
   rw [List.drop_eq_getElem_cons hk'] at hr
   injection hr with hd hr
   have hdk:ds[k]? = some d:=by rw [List.getElem?_eq_getElem hk',hd]
   have hok:=hds d (List.mem_of_getElem? hdk)
   have hle:d.st.nx≤d.fl.nx:=by
    cases hw:d.want with
    |true=>have:=uw (hok.run hw).1;exact this
    |false=>rw [(hok.skip hw).2.1];exact Nat.le_refl _
   have hn:=ih (k+1) d.ajt d.next hr hk' hch (fun t=>?_) (fun o=>?_) ?_
   ·refine ⟨fun i d' hi hd'=>?_,hn.2⟩
    rcases Nat.lt_or_ge k i with h|h
    ·exact hn.1 i d' h hd'
    ·have:i=k:=by omega
     subst this
     rw [hdk] at hd';cases hd'
     exact ⟨h1,h2,h3,hle⟩
   ·rw [DS.ajt,axa,lq,hdk]
    simp only [true_and]
    split
    ·rfl
    ·exact h1 t
   ·rw [DS.next,lr,hdk]
    cases hw:d.want with
    |true=>
     obtain ⟨r1,r2,r3,r4,r5⟩:=hok.run hw
     simp only [cond_true,true_and]
     rw [Aa _ _ _ _ (fun p hp=>by
      rcases List.mem_append.1 hp with hp|hp
      ·have:=r2 p hp;omega
      ·rw [nk] at hp;omega)]
     by_cases hW:o ∈ d.W
     ·rw [if_pos hW,if_pos]
      rcases (r4 o).1 hW with hq|hq
      ·exact List.mem_append.2 (.inl hq.2)
      ·exact List.mem_append.2 (.inr (by rw [nk];omega))
     ·rw [if_neg hW]
      by_cases hR:o ∈ d.R
      ·rw [if_pos (List.mem_append.2 (.inl hR)),← r5 o hR hW,h2 o]
      ·rw [if_neg,h2 o]
       intro hm
       rcases List.mem_append.1 hm with hm|hm
       ·exact hR hm
       ·rw [nk] at hm
        exact hW ((r4 o).2 (.inr (by omega)))
    |false=>
     obtain ⟨s1,s2,s3,s4⟩:=hok.skip hw
     simp only [cond_false,s4,List.not_mem_nil,and_false,if_false]
     exact h2 o
   ·rw [DS.next,n8,hdk]
    cases hw:d.want with
    |true=>rfl
    |false=>exact (hok.skip hw).2.1.symm
 have:=key 0 ds L0 st0 rfl (Nat.zero_le _) hc (fun t=>rfl) (fun o=>rfl) rfl
 exact ⟨fun i d hd=>this.1 i d (Nat.zero_le _) hd,this.2⟩
theorem W8 {ds:List DS} {h0:Tr bh} {D:Nat→Bool} {i:Nat} {o:Nat} (h:∀ k d,ds[k]? = some d→o ∈ d.W→(D k=true↔k<i)):∀ m,lr ds h0 D m o=lr ds h0 (fun _=>true) (min m i) o
 |0=>by simp [lr]
 |m+1=>by
  have ih:=W8 (h0:=h0) h m
  rw [lr]
  cases hd:ds[m]? with
  |none=>
   rcases Nat.lt_or_ge m i with hm|hm
   ·rw [show min (m+1) i=m+1 from by omega,lr,hd];simp only;rw [ih,show min m i=m from by omega]
   ·simp only;rw [ih,show min (m+1) i=min m i from by omega]
  |some d=>
   simp only
   rcases Nat.lt_or_ge m i with hm|hm
   ·rw [show min (m+1) i=m+1 from by omega,lr,hd]
    simp only
    by_cases hW:o ∈ d.W
    ·rw [if_pos ⟨(h m d hd hW).2 hm,hW⟩,if_pos ⟨by simp,hW⟩]
    ·rw [if_neg (fun e=>hW e.2),if_neg (fun e=>hW e.2),ih,show min m i=m from by omega]
   ·rw [if_neg (fun e=>by have:=(h m d hd e.2).1 e.1;omega),ih,show min (m+1) i=min m i from by omega]
theorem Ys {ds:List DS} {L0:SL} {D:Nat→Bool} {i:Nat} {t:Nat} (h:∀ k d,ds[k]? = some d→d.o.dst=some t→(D k=true↔k<i)):∀ m,lq ds L0 D m t=lq ds L0 (fun _=>true) (min m i) t
 |0=>by simp [lq]
 |m+1=>by
  have ih:=Ys (L0:=L0) h m
  rw [lq]
  cases hd:ds[m]? with
  |none=>
   rcases Nat.lt_or_ge m i with hm|hm
   ·rw [show min (m+1) i=m+1 from by omega,lq,hd];simp only;rw [ih,show min m i=m from by omega]
   ·simp only;rw [ih,show min (m+1) i=min m i from by omega]
  |some d=>
   simp only
   rcases Nat.lt_or_ge m i with hm|hm
   ·rw [show min (m+1) i=m+1 from by omega,lq,hd]
    simp only
    by_cases hW:d.o.dst=some t
    ·rw [if_pos ⟨(h m d hd hW).2 hm,hW⟩,if_pos ⟨by simp,hW⟩]
    ·rw [if_neg (fun e=>hW e.2),if_neg (fun e=>hW e.2),ih,show min m i=m from by omega]
   ·rw [if_neg (fun e=>by have:=(h m d hd e.2).1 e.1;omega),ih,show min (m+1) i=min m i from by omega]
def uy (D:Nat→Bool) (i:Nat):Nat→Bool:=fun k=>if k=i then true else D k
theorem adw {ds:List DS} {h0:Tr bh} {D:Nat→Bool} {i:Nat} {d:DS} {o:Nat} (hi:ds[i]? = some d) (h:o ∈ d.W→∀ k e,ds[k]? = some e→i<k→o ∈ e.W→D k=false) :
 ∀ m,lr ds h0 (uy D i) m o=if o ∈ d.W∧i<m then d.fl.h.get o else lr ds h0 D m o
 |0=>by simp [lr]
 |m+1=>by
  have ih:=adw (h0:=h0) hi h m
  rw [lr]
  cases hd:ds[m]? with
  |none=>
   simp only
   rw [ih,lr,hd]
   have:m≠i:=fun e=>by subst e;rw [hi] at hd;cases hd
   by_cases hm:i<m
   ·simp [hm,Nat.lt_succ_of_lt hm]
   ·simp [hm,show ¬ i<m+1 from by omega]
  |some e=>
   simp only
   rw [lr,hd]
   by_cases hm:m=i
   ·subst hm
    rw [hi] at hd;cases hd
    simp only [uy,if_true,true_and]
    by_cases hW:o ∈ d.W
    ·simp [hW]
    ·rw [ih];simp [hW]
   ·simp only [uy,if_neg hm]
    by_cases hW:o ∈ d.W
    ·by_cases hlt:i<m
     ·by_cases he:o ∈ e.W
      ·have:=h hW m e hd hlt he
       rw [this,if_neg (by simp),ih]
       simp [hW,hlt,Nat.lt_succ_of_lt hlt]
      ·rw [if_neg (fun q=>he q.2),ih]
       simp [hW,hlt,Nat.lt_succ_of_lt hlt]
     ·have hl2:¬ i<m+1:=by omega
      rw [ih];simp [hlt,hl2]
    ·rw [ih];simp [hW]
theorem aa2 {ds:List DS} {L0:SL} {D:Nat→Bool} {i:Nat} {d:DS} {t:Nat} (hi:ds[i]? = some d) (h:d.o.dst=some t→∀ k e,ds[k]? = some e→i<k→e.o.dst=some t→D k=false) :
 ∀ m,lq ds L0 (uy D i) m t=if d.o.dst=some t∧i<m then d.v else lq ds L0 D m t
 |0=>by simp [lq]
 |m+1=>by
  have ih:=aa2 (L0:=L0) hi h m
  rw [lq]
  cases hd:ds[m]? with
  |none=>
   simp only
   rw [ih,lq,hd]
   have:m≠i:=fun e=>by subst e;rw [hi] at hd;cases hd
   by_cases hm:i<m
   ·simp [hm,Nat.lt_succ_of_lt hm]
   ·simp [hm,show ¬ i<m+1 from by omega]
  |some e=>
   simp only
   rw [lq,hd]
   by_cases hm:m=i
   ·subst hm
    rw [hi] at hd;cases hd
    simp only [uy,if_true,true_and]
    by_cases hW:d.o.dst=some t
    ·simp [hW]
    ·rw [ih];simp [hW]
   ·simp only [uy,if_neg hm]
    by_cases hW:d.o.dst=some t
    ·by_cases hlt:i<m
     ·by_cases he:e.o.dst=some t
      ·have:=h hW m e hd hlt he
       rw [this,if_neg (by simp),ih]
       simp [hW,hlt,Nat.lt_succ_of_lt hlt]
      ·rw [if_neg (fun q=>he q.2),ih]
       simp [hW,hlt,Nat.lt_succ_of_lt hlt]
     ·have hl2:¬ i<m+1:=by omega
      rw [ih];simp [hlt,hl2]
    ·rw [ih];simp [hW]
theorem Q0 {acc:Array Nat} {k:Nat}:∀ (l:List Edge) (s0:Nat),(l.foldl (fun s e=>if Region.binds .any e then s ||| 2 ^ e.on ||| acc.getD e.on 0 else s) s0).testBit k=true →
 s0.testBit k=true∨∃ e ∈ l,Region.binds .any e=true∧(k=e.on∨(acc.getD e.on 0).testBit k=true)
 | [],s0,h=>.inl h
 |e::l,s0,h=>by
  simp only [List.foldl_cons] at h
  rcases Q0 l _ h with h1|⟨e',he,h1,h2⟩
  ·by_cases hb:Region.binds .any e=true
   ·rw [if_pos hb] at h1
    simp only [Nat.testBit_or,Bool.or_eq_true,Nat.testBit_two_pow,decide_eq_true_eq] at h1
    rcases h1 with (h1|h1)|h1
    ·exact .inl h1
    ·exact .inr ⟨e,by simp,hb,.inl h1.symm⟩
    ·exact .inr ⟨e,by simp,hb,.inr h1⟩
   ·rw [if_neg hb] at h1;exact .inl h1
  ·exact .inr ⟨e',by simp [he],h1,h2⟩
def oh (acc:Array Nat) (o:Oper):Array Nat:=acc.push (o.after.foldl (fun s e=>if Region.binds .any e then s ||| 2 ^ e.on ||| acc.getD e.on 0 else s) 0)
theorem agj (ops:Array Oper):Region.before ops=ops.toList.foldl oh #[]:=by
 unfold Region.before
 rw [← Array.foldl_toList]
 rfl
theorem Fe {a:Array Nat} {i k:Nat} (h:(a.getD i 0).testBit k=true):i<a.size:=by
 rcases Nat.lt_or_ge i a.size with h1|h1
 ·exact h1
 ·rw [Array.getD_eq_getD_getElem?,Array.getElem?_eq_none h1] at h
  simp at h
theorem atq (l:List Oper):(l.foldl oh #[]).size=l.length∧∀ i k,((l.foldl oh #[]).getD i 0).testBit k=true →
 ∃ o,l[i]? = some o∧∃ e ∈ o.after,Region.binds .any e=true∧(k=e.on∨((l.foldl oh #[]).getD e.on 0).testBit k=true):=by
 suffices h:∀ r:List Oper,(r.reverse.foldl oh #[]).size=r.length∧∀ i k,((r.reverse.foldl oh #[]).getD i 0).testBit k=true →
  ∃ o,r.reverse[i]? = some o∧∃ e ∈ o.after,Region.binds .any e=true∧(k=e.on∨((r.reverse.foldl oh #[]).getD e.on 0).testBit k=true) by
  have:=h l.reverse
  simpa using this
 intro r
 induction r with
 |nil=>exact ⟨rfl,fun i k h=>by have:=Fe h;simp at this⟩
 |cons o r ih=>
  rw [List.reverse_cons,List.foldl_append]
  generalize hb:r.reverse.foldl oh #[]=b at ih
  obtain ⟨h1,h2⟩:=ih
  simp only [List.foldl_cons,List.foldl_nil]
  have hsz:(oh b o).size=r.length+1:=by simp [oh,h1]
  have ed:∀ i,i<b.size→(oh b o).getD i 0=b.getD i 0:=by
   intro i hi
   simp only [oh,Array.getD_eq_getD_getElem?,Array.getElem?_push]
   rw [if_neg (by omega)]
  refine ⟨by simpa using hsz,fun i k h=>?_⟩
  have hi:=Fe h
  rw [hsz] at hi
  by_cases hlt:i<b.size
  ·rw [ed i hlt] at h
   obtain ⟨o',ho,e,he,hbn,hk⟩:=h2 i k h
   refine ⟨o',by rw [List.getElem?_append_left (by simp;omega)];exact ho,e,he,hbn,hk.imp id fun hk=>?_⟩
   rw [ed _ (Fe hk)];exact hk
  ·have hie:i=r.length:=by omega
   have hv:(oh b o).getD i 0=o.after.foldl (fun s e=>if Region.binds .any e then s ||| 2 ^ e.on ||| b.getD e.on 0 else s) 0:=by
    simp only [oh,Array.getD_eq_getD_getElem?,Array.getElem?_push]
    rw [if_pos (by omega)];rfl
   rw [hv,← Array.foldl_toList] at h
   rcases Q0 _ _ h with h3|⟨e,he,hbn,hk⟩
   ·simp at h3
   ·refine ⟨o,by rw [List.getElem?_append_right (by simp;omega)];simp [hie],e,by simpa using he,hbn,hk.imp id fun hk=>?_⟩
    rw [ed _ (Fe hk)];exact hk
theorem aft {ops:Array Oper} {i k:Nat} (h:((Region.before ops).getD i 0).testBit k=true) :
 ∃ o,ops[i]? = some o∧∃ e ∈ o.after,Region.binds .any e=true∧(k=e.on∨((Region.before ops).getD e.on 0).testBit k=true):=by
 rw [agj] at h ⊢
 obtain ⟨o,ho,r⟩:=(atq ops.toList).2 i k h
 exact ⟨o,by simpa using ho,r⟩
theorem Wl {a b:List Nat} (h:sm a b=true) {o:Nat} (ha:o ∈ a) (hb:o ∈ b):False:=(alf a b).1 h o ha hb
theorem Pa {before:Array Nat} {i:Nat} {a:Rec}:∀ (r:List Rec) (j:Nat),Mv before i a j r=true→∀ k b,r[k]? = some b→Ip before i (j+k) a b=true
 | [],j,_,k,b,h=>by simp at h
 |c::r,j,h,k,b,hk=>by
  simp only [Mv,Bool.and_eq_true] at h
  cases k with
  |zero=>simp at hk;subst hk;exact h.1
  |succ k=>have:=Pa r (j+1) h.2 k b (by simpa using hk);rwa [show j+1+k=j+(k+1) from by omega] at this
theorem Pz {before:Array Nat}:∀ (r:List Rec) (j:Nat),iz before j r=true→∀ i k a b,i<k→r[i]? = some a→r[k]? = some b→Ip before (j+i) (j+k) a b=true
 | [],j,_,i,k,a,b,_,h,_=>by simp at h
 |c::r,j,h,i,k,a,b,hlt,hi,hk=>by
  simp only [iz,Bool.and_eq_true] at h
  obtain ⟨k,rfl⟩:∃ q,k=q+1:=⟨k - 1,by omega⟩
  cases i with
  |zero=>simp at hi;subst hi;have:=Pa r (j+1) h.1 k b (by simpa using hk);rwa [show j+1+k=j+(k+1) from by omega] at this
  |succ i=>
   have:=Pz r (j+1) h.2 i k a b (by omega) (by simpa using hi) (by simpa using hk)
   rwa [show j+1+i=j+(i+1) from by omega,show j+1+k=j+(k+1) from by omega] at this
def G4 (ops:Array Oper) (D:Nat→Bool):Prop:=∀ i k,D i=true→((Region.before ops).getD i 0).testBit k=true→D k=true
theorem Ey {ops:Array Oper} {D:Nat→Bool} {i:Nat} {o:Oper} (hc:G4 ops D) (ho:ops[i]? = some o) (hr:∀ e ∈ o.after,Region.binds .any e=true→D e.on=true) :
 ∀ k,((Region.before ops).getD i 0).testBit k=true→D k=true:=by
 intro k hk
 obtain ⟨o',ho',e,he,hb,h⟩:=aft hk
 rw [ho] at ho';cases ho'
 rcases h with rfl|h
 ·exact hr e he hb
 ·exact hc e.on k (hr e he hb) h
theorem G4.uy {ops:Array Oper} {D:Nat→Bool} {i:Nat} {o:Oper} (hc:G4 ops D) (ho:ops[i]? = some o) (hr:∀ e ∈ o.after,Region.binds .any e=true→D e.on=true):G4 ops (uy D i):=by
 intro j k hj hk
 have:D k=true:=by
  by_cases e:j=i
  ·subst e;exact Ey hc ho hr k hk
  ·simp only [Vm.uy,if_neg e] at hj;exact hc j k hj hk
 simp only [Vm.uy];split
 ·rfl
 ·exact this
def left (D:Nat→Bool):Nat→Nat
 |0=>0
 |m+1=>left D m+(bif D m then 0 else 1)
theorem acg {D:Nat→Bool} {i:Nat} (hi:D i=false):∀ m,left (uy D i) m+(if i<m then 1 else 0)=left D m
 |0=>by simp [left]
 |m+1=>by
  have ih:=acg hi m
  simp only [left,uy]
  by_cases e:m=i
  ·subst e
   simp only [if_true,cond_true,hi,cond_false] at *
   simp only [Nat.lt_irrefl,if_false,Nat.lt_succ_self,if_true] at *
   omega
  ·rw [if_neg e]
   by_cases h:i<m
   ·rw [if_pos h] at ih;rw [if_pos (by omega)];omega
   ·rw [if_neg h] at ih;rw [if_neg (by omega)];omega
theorem Xw {D:Nat→Bool}:∀ m,left D m=0→∀ k,k<m→D k=true
 |0,_,k,h=>by omega
 |m+1,h,k,hk=>by
  simp only [left] at h
  by_cases e:k=m
  ·subst e
   cases hd:D k with
   |true=>rfl
   |false=>rw [hd] at h;simp at h
  ·exact Xw m (by omega) k (by omega)
theorem Rb {D:Nat→Bool}:∀ m,(∃ k,k<m∧D k=false)→∃ k,k<m∧D k=false∧∀ j,j<k→D j=true
 |0,⟨k,h,_⟩=>by omega
 |m+1,⟨k,hk,hd⟩=>by
  by_cases h:∃ k,k<m∧D k=false
  ·obtain ⟨j,h1,h2,h3⟩:=Rb m h;exact ⟨j,by omega,h2,h3⟩
  ·have hall:∀ j,j<m→D j=true:=fun j hj=>by
    cases hdj:D j with
    |true=>rfl
    |false=>exact (h ⟨j,hj,hdj⟩).elim
   have:k=m:=by
    rcases Nat.lt_or_ge k m with h1|h1
    ·rw [hall k h1] at hd;cases hd
    ·omega
   subst this
   exact ⟨k,by omega,hd,hall⟩
theorem qy {ds:List DS} {n0:Nat} (h:∀ i d,ds[i]? = some d→d.st.nx=n8 ds n0 i∧d.st.nx≤d.fl.nx):∀ m i,i≤m→n8 ds n0 i≤n8 ds n0 m
 |0,i,hi=>by rw [show i=0 from by omega];exact Nat.le_refl _
 |m+1,i,hi=>by
  by_cases e:i=m+1
  ·subst e;exact Nat.le_refl _
  ·have ih:=qy h m i (by omega)
   refine Nat.le_trans ih ?_
   rw [n8.eq_2]
   cases hd:ds[m]? with
   |none=>exact Nat.le_refl _
   |some d=>obtain ⟨h1,h2⟩:=h m d hd;simp only;omega
theorem ak7 {ops:Array Oper} {o:Oper} {g w nt b} {L:SL} {tmps:Array Value} (hsz:tmps.size=nt) (hs:∀ j b,o.guard=some (j,b)→∃ d,((ops[j]?).bind (·.dst))=some d∧d<nt)
 (hr:∀ j c,o.guard=some (j,c)→Rel g w (lk L (tn ops j)) (tmps.getD (tn ops j) undef)) (h:Vf ops L o=some b):Region.wanted o (yielded ops tmps)=b:=by
 unfold Vf at h
 unfold Region.wanted
 cases hg:o.guard with
 |none=>rw [hg] at h;simpa using h
 |some q=>
  obtain ⟨j,c⟩:=q
  obtain ⟨d,hd,hlt⟩:=hs j c hg
  have hrel:=hr j c hg
  rw [hg] at h
  have hgs:tn ops j=d:=by unfold tn;rw [hd];rfl
  dsimp only at h ⊢
  rw [hgs] at h hrel
  rw [Pn c hd (by rw [hsz];exact hlt)]
  exact Tg hrel h
theorem ak6 {g w} {o:Oper} {L:SL} {a:Act} (h:∀ t,(∃ x ∈ o.op.operands.toList,x = .tmp t)→Rel g w (lk L t) (a.tmps.getD t undef)):l5 g w (db o L) a.eval:=by
 intro x
 cases x with
 |tmp t=>
  simp only [db]
  cases hb:o.op.operands.any (fun x=>match x with|.tmp u=>Nat.beq u t|_=>false) with
  |false=>exact .bad _
  |true=>
   rw [cond_true]
   refine h t ?_
   rw [Array.any_eq_true'] at hb
   obtain ⟨y,hy,hb⟩:=hb
   refine ⟨y,by simpa using hy,?_⟩
   cases y with
   |tmp u=>simp at hb;rw [hb]
   |_=>cases hb
 |const v=>exact .sc v
 |global g'=>exact .sc _
 |func f=>exact .sc _
structure Bu (P:Program) (T:dv) (ops:Array Oper) (ds:List DS) (L0:SL) (st0:St) (L':SL) (st':St):Prop where
 os:ds.map (·.o)=ops.toList
 ok:∀ d ∈ ds,DSRun P T d
 Pk:∀ i d,ds[i]? = some d→(∀ t,lk d.L t=lq ds L0 (fun _=>true) i t)∧(∀ o,d.st.h.get o=lr ds st0.h (fun _=>true) i o)∧d.st.nx=n8 ds st0.nx i∧d.st.nx≤d.fl.nx
 fin:(∀ t,lk L' t=lq ds L0 (fun _=>true) ds.length t)∧(∀ o,st'.h.get o=lr ds st0.h (fun _=>true) ds.length o)∧st'.nx=n8 ds st0.nx ds.length
 slots:∀ i k a b t,i≠k→ds[i]? = some a→ds[k]? = some b→t ∈ zp ops a.o→b.o.dst=some t→((Region.before ops).getD (max i k) 0).testBit (min i k)=true
 az1:∀ (i:Nat) o,ops[i]? = some o→∀ e ∈ o.after,Region.binds .any e=true→e.on<i
theorem Bu.get {P T ops ds L0 st0 L' st'} [KP P] (h:Bu P T ops ds L0 st0 L' st') {i:Nat} {d:DS} (hd:ds[i]? = some d):ops[i]? = some d.o:=by
 have:=congrArg (·[i]?) h.os
 simp only [List.getElem?_map,hd,Option.map_some] at this
 simpa using this.symm
theorem Bu.len {P T ops ds L0 st0 L' st'} [KP P] (h:Bu P T ops ds L0 st0 L' st'):ds.length=ops.size:=by
 have:=congrArg List.length h.os;simpa using this
theorem Bu.has {P T ops ds L0 st0 L' st'} [KP P] (h:Bu P T ops ds L0 st0 L' st') {i:Nat} (hi:i<ops.size):∃ d,ds[i]? = some d:=⟨ds[i]'(by rw [h.len];exact hi),by simp⟩
def Calm (ops:Array Oper) (ds:List DS):Prop:=∀ i k a b,i<k→ds[i]? = some a→ds[k]? = some b→((Region.before ops).getD k 0).testBit i=true∨(sm a.W b.R=true∧sm a.W b.W=true∧sm a.R b.W=true)
theorem abl {P:Program} [KP P] {T:dv} {ops:Array Oper} {ds:List DS} {L0:SL} {st0:St} {L':SL} {st':St} (R:Bu P T ops ds L0 st0 L' st') (C:Calm ops ds) {D:Nat→Bool} {i:Nat} {d:DS} (hi:ds[i]? = some d) (hD:D i=false) (hcl:G4 ops D)
 (hr:∀ e ∈ d.o.after,Region.binds .any e=true→D e.on=true) :
 (∀ o ∈ d.R,lr ds st0.h D ds.length o=d.st.h.get o)∧∀ o,lr ds st0.h (uy D i) ds.length o=if o ∈ d.W then d.fl.h.get o else lr ds st0.h D ds.length o:=by
 have ho:=R.get hi
 have hlt:i<ds.length:=(List.getElem?_eq_some_iff.1 hi).1
 obtain ⟨a1,a2,a3,a4⟩:=R.Pk i d hi
 have hbef:=Ey hcl ho hr
 have late:∀ k e,ds[k]? = some e→i<k→(sm d.W e.W=false∨sm d.R e.W=false)→D k=false:=by
  intro k e hk hik hap
  cases hDk:D k with
  |false=>rfl
  |true=>
   rcases C i k d e hik hi hk with h6|⟨_,h6,h7⟩
   ·have:=hcl k i hDk h6;rw [hD] at this;cases this
   ·rcases hap with q|q
    ·rw [h6] at q;cases q
    ·rw [h7] at q;cases q
 have noT:∀ {x y:List Nat} {o:Nat},o ∈ x→o ∈ y→sm x y=false:=by
  intro x y o hx hy
  cases he:sm x y with
  |false=>rfl
  |true=>exact (Wl he hx hy).elim
 refine ⟨fun o hoR=>?_,fun o=>?_⟩
 ·have:=W8 (h0:=st0.h) (D:=D) (i:=i) (o:=o) (ds:=ds) (fun k e hk he=>?_) ds.length
  ·rw [this,a2 o];congr 1;omega
  ·rcases Nat.lt_trichotomy k i with hlt'|rfl|hgt
   ·refine ⟨fun _=>hlt',fun _=>?_⟩
    rcases C k i e d hlt' hk hi with h6|⟨h6,_,_⟩
    ·exact hbef k h6
    ·exact (Wl h6 he hoR).elim
   ·exact ⟨(fun q=>by rw [hD] at q;cases q),(fun q=>by omega)⟩
   ·exact ⟨(fun q=>by have:=late k e hk hgt (.inr (noT hoR he));rw [this] at q;cases q),(fun q=>by omega)⟩
 ·rw [adw hi (fun hW k e hk hik he=>late k e hk hik (.inl (noT hW he)))]
  by_cases hW:o ∈ d.W
  ·rw [if_pos ⟨hW,hlt⟩,if_pos hW]
  ·rw [if_neg (fun q=>hW q.1),if_neg hW]
structure At (H:(Nat→Bool)→Nat→Option bh) (ops:Array Oper) (ds:List DS) (L0:SL) (g0:Gh) (st0:St) (w0:World) (df:List Deferred) (nt:NT) (hi:Nat) (D:Nat→Bool) (a:Act) (w:World):Prop where
 mem:∃ g h,(∀ o,h.get o=H D o)∧Ok g h w∧Step g0 st0.h w0 st0.nx hi g h w∧(∀ t,Rel g w (lq ds L0 D ds.length t) (a.tmps.getD t undef)) ∧
  (∀ i d,ds[i]? = some d→D i=false→∀ o,d.st.nx≤o→o<d.fl.nx→g.inj o=none)
 size:pv nt a.tmps
 defers:a.defers=df
 closed:G4 ops D
theorem u0 {a:Act} {dst:Option Tmp} {u:Value} {t:Nat} (hd:∀ d,dst=some d→d<a.tmps.size):(a.put dst u).tmps.getD t undef=if dst=some t then u else a.tmps.getD t undef:=by
 cases dst with
 |none=>simp [Act.put]
 |some d=>
  simp only [Act.put,Array.getD_eq_getD_getElem?,Array.getElem?_setIfInBounds,Option.some.injEq]
  by_cases e:d=t
  ·subst e;rw [if_pos rfl,if_pos rfl,if_pos (hd d rfl)];rfl
  ·rw [if_neg e,if_neg e]
theorem At.step {H:(Nat→Bool)→Nat→Option bh} {P:Program} [KP P] {T:dv} (hT:Ks P T) {ops:Array Oper} {ds:List DS} {L0:SL} {g0:Gh} {st0:St} {w0:World} {df:List Deferred} {ro:Option Nat} {N:Nat} {nt:NT} {L':SL} {st':St} (R:Bu P T ops ds L0 st0 L' st') (hg:kp nt ops=true) (hdst:oa nt ops=true)
 {D:Nat→Bool} {a:Act} {w:World} {i:Nat} {d:DS} (hi:ds[i]? = some d) (hgv:Vf ops d.L d.o=some d.want) (obj:∀ o ∈ d.R,H D o=d.st.h.get o) (hupd:∀ o,H (uy D i) o=if o ∈ d.W then d.fl.h.get o else H D o) (hD:D i=false) (hr:∀ e ∈ d.o.after,Region.binds .any e=true→D e.on=true) (A:At H ops ds L0 g0 st0 w0 df nt (n8 ds st0.nx ds.length) D a w)
 {Q:Exit→Act→World→Prop} {K:Act→World→Prop} (hK:∀ a' w',At H ops ds L0 g0 st0 w0 df nt (n8 ds st0.nx ds.length) (uy D i) a' w'→K a' w'):wpOpIn (eh ro) N P ops Q i K a w:=by
 have ho:=R.get hi
 have hlt:i<ds.length:=(List.getElem?_eq_some_iff.1 hi).1
 have hmem:d.o ∈ ops:=Array.mem_of_getElem? ho
 have hok:=R.ok d (List.mem_of_getElem? hi)
 obtain ⟨a1,a2,a3,a4⟩:=R.Pk i d hi
 have hbef:=Ey A.closed ho hr
 have hcl:=A.closed.uy ho hr
 obtain ⟨g,h,h1,h2,h3,h4,h5⟩:=A.mem
 have slot:∀ t ∈ zp ops d.o,lq ds L0 D ds.length t=lk d.L t:=by
  intro t ht
  have:=Ys (L0:=L0) (D:=D) (i:=i) (t:=t) (ds:=ds) (fun k e hk he=>?_) ds.length
  ·rw [this,a1 t];congr 1;omega
  ·rcases Nat.lt_trichotomy k i with hlt'|rfl|hgt
   ·have:=R.slots i k d e t (by omega) hi hk ht he
    rw [show max i k=i from by omega,show min i k=k from by omega] at this
    exact ⟨fun _=>hlt',fun _=>hbef k this⟩
   ·exact ⟨(fun q=>by rw [hD] at q;cases q),(fun q=>by omega)⟩
   ·have:=R.slots i k d e t (by omega) hi hk ht he
    rw [show max i k=k from by omega,show min i k=i from by omega] at this
    exact ⟨(fun q=>by have:=A.closed k i q this;rw [hD] at this;cases this),(fun q=>by omega)⟩
 have slotLate:∀ t,d.o.dst=some t→∀ k e,ds[k]? = some e→i<k→e.o.dst=some t→D k=false:=by
  intro t ht k e hk hik he
  have hu:t ∈ zp ops d.o:=by simp [zp,ht]
  have:=R.slots i k d e t (by omega) hi hk hu he
  rw [show max i k=k from by omega,show min i k=i from by omega] at this
  cases hDk:D k with
  |false=>rfl
  |true=>have:=A.closed k i hDk this;rw [hD] at this;cases this
 have hwant:Region.wanted d.o (yielded ops a.tmps)=d.want:=by
  refine ak7 (g:=g) (w:=w) A.size.size (uu hg hmem) (fun j c hgd=>?_) hgv
  have hu:tn ops j ∈ zp ops d.o:=by simp [zp,hgd]
  rw [← slot _ hu]
  exact h4 _
 have hslotS:∀ (g':Gh) (w':World) (v:AV) (u:Value),(∀ t,Rel g' w' (lq ds L0 D ds.length t) (a.tmps.getD t undef))→Rel g' w' v u→d.v=v→∀ t,Rel g' w' (lq ds L0 (uy D i) ds.length t) ((a.put d.o.dst u).tmps.getD t undef):=by
  intro g' w' v u hall hv e t
  rw [u0 (fun q hq=>by rw [A.size.size];exact (NT.Er (j4 hdst hmem q hq)).1),aa2 hi (slotLate t)]
  by_cases hd:d.o.dst=some t
  ·rw [if_pos ⟨hd,hlt⟩,if_pos hd,e];exact hv
  ·rw [if_neg (fun q=>hd q.1),if_neg hd];exact hall t
 have mono1:∀ i d,ds[i]? = some d→d.st.nx=n8 ds st0.nx i∧d.st.nx≤d.fl.nx:=fun i d hd=>⟨(R.Pk i d hd).2.2.1,(R.Pk i d hd).2.2.2⟩
 have nxs:n8 ds st0.nx (i+1)=d.fl.nx:=by rw [n8,hi]
 have free':∀ (g':Gh),(∀ o,g.inj o=none→¬ (d.st.nx≤o∧o<d.fl.nx)→g'.inj o=none)→∀ k e,ds[k]? = some e→uy D i k=false→∀ o,e.st.nx≤o→o<e.fl.nx→g'.inj o=none:=by
  intro g' hf k e hk hkD o q1 q2
  have hki:k≠i:=fun q=>by subst q;simp [uy] at hkD
  simp only [uy,if_neg hki] at hkD
  refine hf o (h5 k e hk hkD o q1 q2) (fun q=>?_)
  obtain ⟨e1,e2⟩:=mono1 k e hk
  rcases Nat.lt_or_gt_of_ne hki with hl|hl
  ·have:=qy mono1 i (k+1) (by omega)
   rw [n8.eq_2,hk] at this
   simp only at this
   omega
  ·have:=qy mono1 k (i+1) (by omega)
   rw [nxs] at this
   omega
 unfold wpOpIn
 rw [ho]
 dsimp only
 cases hw:d.want with
 |false=>
  rw [hwant,hw,if_neg (by simp)]
  refine ⟨i4 ro P d.o a w,?_⟩
  obtain ⟨s1,s2,s3,s4⟩:=hok.skip hw
  refine hK _ _ ⟨⟨g,h,fun o=>?_,h2,h3,hslotS g w (.sc undef) undef h4 (.sc _) s1,free' g (fun o q _=>q)⟩,A.size.put (j4 hdst hmem),by rw [put_defers];exact A.defers,hcl⟩
  rw [h1 o,hupd o,if_neg (fun q=>by rw [s4] at q;cases q)]
 |true=>
  rw [hwant,hw,if_pos rfl]
  obtain ⟨r1,r2',r3,r4,r5⟩:=hok.run hw
  have r2:∀ p ∈ d.R,p≤di:=fun p hp=>by have:=r2' p hp;omega
  have hsub:∀ o x,(qc d.st.h d.R).get o=some x→h.get o=some x:=by
   intro o x hx
   rw [Ck _ _ _ r2] at hx
   by_cases hR:o ∈ d.R
   ·rw [if_pos hR] at hx;rw [h1 o,obj o hR,hx]
   ·rw [if_neg hR] at hx;cases hx
  have hfree:lz g { h:=qc d.st.h d.R,nx:=d.st.nx,rl:=[],wl:=[] } d.fl:=fun o q1 q2=>h5 i d hi hD o q1 q2
  have hrel:l5 g w (db d.o d.L) a.eval:=ak6 fun t ⟨x,hx,e⟩=>by
   have hu:t ∈ zp ops d.o:=by
    simp only [zp,List.mem_append,List.mem_filterMap]
    exact .inl (.inr ⟨x,hx,by rw [e]⟩)
   rw [← slot t hu]
   exact h4 t
  have hlow:Low { h:=qc d.st.h d.R,nx:=d.st.nx,rl:=[],wl:=[] }:=fun o x hx=>by
   simp only [Ck _ _ _ r2] at hx
   by_cases hR:o ∈ d.R
   ·exact r2' o hR
   ·rw [if_neg hR] at hx;cases hx
  refine am2 hT (h2.part hsub) hfree hlow hrel r1 ro N _ _ ?_
  rintro u w' ⟨g',q1,q2,q3⟩
  have m7:∀ p ∈ d.R++dw d.st.nx (d.fl.nx - d.st.nx),p≤di:=fun p hp=>by
   rcases List.mem_append.1 hp with hp|hp
   ·exact r2 p hp
   ·rw [nk] at hp;omega
  have hfs:=al2 (h':=tv d.fl.h (d.R++dw d.st.nx (d.fl.nx - d.st.nx)) h) (S:=fun o=>o ∈ d.R++dw d.st.nx (d.fl.nx - d.st.nx)) h2 hsub (fun o x hx=>by
   rw [Ck _ _ _ r2] at hx
   by_cases hR:o ∈ d.R
   ·exact List.mem_append.2 (.inl hR)
   ·rw [if_neg hR] at hx;cases hx) q1 q2 (fun o hS=>by rw [Aa _ _ _ _ m7,if_pos hS]) (fun o hS=>by rw [Aa _ _ _ _ m7,if_neg hS]) (fun o e1 e2=>List.mem_append.2 (.inr (by have e1':d.st.nx≤o:=e1;have e2':o<d.fl.nx:=e2;rw [nk];omega)))
  have n1:st0.nx≤d.st.nx:=by rw [a3];exact qy mono1 i 0 (Nat.zero_le _)
  have n2:d.fl.nx≤n8 ds st0.nx ds.length:=by rw [← nxs];exact qy mono1 ds.length (i+1) hlt
  refine hK _ _ ⟨⟨g',_,fun o=>?_,hfs.2,h3.both (hfs.1.ai9 n1 n2),hslotS g' w' d.v u (fun t=>(h4 t).ext q1.ext) q3 rfl,free' g' (fun o e1 e2=>q1.fresh o e1 e2)⟩,A.size.put (j4 hdst hmem),by rw [put_defers];exact A.defers,hcl⟩
  rw [Aa _ _ _ _ m7,hupd o]
  by_cases hW:o ∈ d.W
  ·rw [if_pos hW,if_pos]
   rcases (r4 o).1 hW with hq|hq
   ·exact List.mem_append.2 (.inl hq.2)
   ·exact List.mem_append.2 (.inr (by rw [nk];omega))
  ·rw [if_neg hW]
   by_cases hR:o ∈ d.R
   ·rw [if_pos (List.mem_append.2 (.inl hR)),← r5 o hR hW,obj o hR]
   ·rw [if_neg,h1 o]
    intro hm
    rcases List.mem_append.1 hm with hm|hm
    ·exact hR hm
    ·rw [nk] at hm
     exact hW ((r4 o).2 (.inr (by omega)))
theorem asn {listed:Array Bool} {i:Nat} (hi:i<listed.size):(fun k=>(listed.setIfInBounds i true).getD k false)=uy (fun k=>listed.getD k false) i:=by
 funext k
 simp only [uy,Array.getD_eq_getD_getElem?,Array.getElem?_setIfInBounds]
 by_cases e:i=k
 ·subst e;simp [hi]
 ·rw [if_neg e,if_neg (Ne.symm e)]
theorem azb {H:(Nat→Bool)→Nat→Option bh} {P:Program} [KP P] {T:dv} {ops:Array Oper} {ds:List DS} {L0:SL} {g0:Gh} {st0:St} {w0:World} {df:List Deferred} {ro:Option Nat} {N:Nat} {nt:NT} {L':SL} {st':St} (R:Bu P T ops ds L0 st0 L' st') {Q:Exit→Act→World→Prop}
 (hstep:∀ (D:Nat→Bool) (a:Act) (w:World) (i:Nat) (d:DS) (K:Act→World→Prop),ds[i]? = some d→D i=false→(∀ e ∈ d.o.after,Region.binds .any e=true→D e.on=true)→At H ops ds L0 g0 st0 w0 df nt (n8 ds st0.nx ds.length) D a w→(∀ a' w',At H ops ds L0 g0 st0 w0 df nt (n8 ds st0.nx ds.length) (uy D i) a' w'→K a' w')→wpOpIn (eh ro) N P ops Q i K a w) (hQ:∀ D a w,(∀ i,i<ds.length→D i=true)→At H ops ds L0 g0 st0 w0 df nt (n8 ds st0.nx ds.length) D a w→Q .normal a w) :
 ∀ (fuel:Nat) (listed:Array Bool) (a:Act) (w:World),listed.size=ops.size→left (fun k=>listed.getD k false) ops.size≤fuel→At H ops ds L0 g0 st0 w0 df nt (n8 ds st0.nx ds.length) (fun k=>listed.getD k false) a w →
  wpAnyIn (eh ro) N P .any ops Q fuel listed a w:=by
 have flip:∀ (listed:Array Bool) (i:Nat),i<listed.size→listed.getD i true=listed.getD i false:=by
  intro listed i hi;simp [hi]
 intro fuel
 induction fuel with
 |zero=>
  intro listed a w hsz hl A
  have hall:=Xw ops.size (Nat.le_zero.1 hl)
  refine ⟨?_,hQ _ a w (fun i hi=>hall i (by rw [← R.len];exact hi)) A⟩
  cases hr:Region.ready .any ops listed with
  |nil=>rfl
  |cons i r=>
   have:i ∈ Region.ready .any ops listed:=by rw [hr];simp
   rw [mem_ready] at this
   obtain ⟨h0,o,ho,_⟩:=this
   have hlt:i<ops.size:=(Array.getElem?_eq_some_iff.1 ho).1
   rw [flip listed i (by omega)] at h0
   have:=hall i hlt
   rw [h0] at this;cases this
 |succ fuel ih=>
  intro listed a w hsz hl A
  refine ⟨fun hnil=>?_,fun i hi=>?_⟩
  ·refine hQ _ a w (fun i hi=>?_) A
   cases hDi:listed.getD i false with
   |true=>rfl
   |false=>
    exfalso
    obtain ⟨k,h1,h2,h3⟩:=Rb (D:=fun k=>listed.getD k false) ops.size ⟨i,by rw [← R.len];exact hi,hDi⟩
    have hk:k ∈ Region.ready .any ops listed:=by
     rw [mem_ready]
     refine ⟨by rw [flip listed k (by omega)];exact h2,ops[k],by simp [h1],fun e he hb=>h3 _ (R.az1 k ops[k] (by simp [h1]) e he hb)⟩
    rw [hnil] at hk;cases hk
  ·rw [mem_ready] at hi
   obtain ⟨h0,o,ho,hall⟩:=hi
   have hlt:i<ops.size:=(Array.getElem?_eq_some_iff.1 ho).1
   rw [flip listed i (by omega)] at h0
   obtain ⟨d,hd⟩:=R.has hlt
   have hdo:=R.get hd
   rw [ho] at hdo
   obtain rfl:o=d.o:=Option.some.inj hdo
   refine hstep _ a w i d _ hd h0 hall A (fun a' w' A'=>?_)
   have hu:=asn (listed:=listed) (i:=i) (by omega)
   refine ih _ a' w' (by simp [hsz]) ?_ (by rw [hu];exact A')
   rw [hu]
   have:=acg (D:=fun k=>listed.getD k false) (i:=i) h0 ops.size
   rw [if_pos hlt] at this
   omega
theorem aid (D:Nat→Bool):∀ m,left D m≤m
 |0=>by simp [left]
 |m+1=>by
  have:=aid D m
  rw [left]
  cases D m
  ·rw [cond_false];omega
  ·rw [cond_true];omega
theorem Yy {ds:List DS} {h0:Tr bh} {o:Nat}:∀ m,lr ds h0 (fun _=>false) m o=h0.get o
 |0=>rfl
 |m+1=>by rw [lr];cases ds[m]? <;> simp [Yy m]
theorem Xp {ds:List DS} {L0:SL} {t:Nat}:∀ m,lq ds L0 (fun _=>false) m t=lk L0 t
 |0=>rfl
 |m+1=>by rw [lq];cases ds[m]? <;> simp [Xp m]
theorem Z8 {ds:List DS} {h0:Tr bh} {D:Nat→Bool} {o:Nat}:∀ m,(∀ i,i<m→D i=true)→lr ds h0 D m o=lr ds h0 (fun _=>true) m o
 |0,_=>rfl
 |m+1,h=>by rw [lr,lr];simp only [h m (by omega),Z8 m (fun i hi=>h i (by omega))]
theorem aa8 {ds:List DS} {L0:SL} {D:Nat→Bool} {t:Nat}:∀ m,(∀ i,i<m→D i=true)→lq ds L0 D m t=lq ds L0 (fun _=>true) m t
 |0,_=>rfl
 |m+1,h=>by rw [lq,lq];simp only [h m (by omega),aa8 m (fun i hi=>h i (by omega))]
theorem Marks.congr {D:List Deferred} {n0:Nat} {h h':Tr bh} {g:Gh} {w:World} {ds:List Deferred} (hm:Marks D n0 h g w ds) (he:∀ o,h.get o=h'.get o):Marks D n0 h' g w ds:=by
 obtain ⟨bs,h1,h2,h3⟩:=hm
 exact ⟨bs,h1,h2,fun b hb=>⟨(h3 b hb).1,(h3 b hb).2.1,fun o base ho=>(h3 b hb).2.2 o base (by rw [he];exact ho)⟩⟩
theorem abp {P:Program} [KP P] {T:dv} (hT:Ks P T) (hm:P.follows .mixedOrders=true) {ops:Array Oper} {ro:Option Nat} {N:Nat} {B:dy} {nt:NT} {id:Nat} {Q:Exit→Act→World→Prop} {K:SL→St→Prop} (hg:kp nt ops=true) (hdst:oa nt ops=true)
 {L:SL} {st:St} {g:Gh} {w:World} {a:Act} (hnear:∀ L' st',K L' st'→B.aj3 st.nx st'.nx) (hK:∀ L st g w a',K L st→js B g st w→ig g w nt L a'.tmps→Marks B.D B.n0 st.h g w a'.defers→a'.defers=a.defers→Q .normal a' w) (h:Dv P T ops true K L st) (hc:js B g st w) (hr:ig g w nt L a.tmps) (hd:Marks B.D B.n0 st.h g w a.defers) :
 (Code.region id ops true).wpIn (eh ro) N P Q a w:=by
 obtain ⟨hs,h⟩:=h
 obtain ⟨ds,L',st',e1,e2,e3,e4,e5⟩:=atb _ _ _ _ (h.elim (aes _ _ _ _) fun h=>h)
 obtain ⟨c1,c2,c3,c4⟩:=aqy (fun d hd=>(e2 d hd).toDSRun) e3
 unfold Ke at hs
 rw [Bool.and_eq_true] at hs
 have R:Bu P T ops ds L st L' st':=by
  refine ⟨e1,fun d hd=>(e2 d hd).toDSRun,c1,⟨c2,c3,c4⟩,fun i k x y t hik hx hy ht hdt=>?_,fun i o ho e he hb=>?_⟩
  ·have hxi:(x.o,i) ∈ ops.toList.zipIdx:=by
    rw [List.mem_zipIdx_iff_getElem?,← e1];simp [hx]
   have hyk:(y.o,k) ∈ ops.toList.zipIdx:=by
    rw [List.mem_zipIdx_iff_getElem?,← e1];simp [hy]
   have h1:=List.all_eq_true.1 hs.1 _ hxi
   have h2:=List.all_eq_true.1 h1 t ht
   have h3:=List.all_eq_true.1 h2 _ hyk
   simp only [hdt,Bool.or_eq_true] at h3
   rcases h3 with (h3|h3)|h3
   ·simp at h3
   ·simp at h3;omega
   ·rw [Nat.max_comm,Nat.min_comm];exact h3
  ·have hoi:(o,i) ∈ ops.toList.zipIdx:=by rw [List.mem_zipIdx_iff_getElem?];simpa using ho
   have h1:=List.all_eq_true.1 hs.2 _ hoi
   rw [Array.all_eq_true_iff_forall_mem] at h1
   have:=h1 e he
   rw [hb] at this
   simpa using this
 have C:Calm ops ds:=fun i k x y hik hx hy=>by
  have:=Pz _ 0 e4 i k ⟨x.R,x.W⟩ ⟨y.R,y.W⟩ hik (by simp [hx]) (by simp [hy])
  simp only [Ip,Nat.zero_add,Bool.or_eq_true,Bool.and_eq_true] at this
  rcases this with h1|h1
  ·exact .inr ⟨h1.1.1,h1.1.2,h1.2⟩
  ·exact .inl h1
 have hc1:=hc.drawn
 have hd':Marks B.D B.n0 st.h g { w with drawn:=w.drawn+1 } a.defers:=hd
 have mono1:∀ i d,ds[i]? = some d→d.st.nx=n8 ds st.nx i∧d.st.nx≤d.fl.nx:=fun i d hd=>⟨(c1 i d hd).2.2.1,(c1 i d hd).2.2.2⟩
 refine wpIn_region_any hm (azb (H:=fun D o=>lr ds st.h D ds.length o) (L0:=L) (g0:=g) (st0:=st) (w0:={ w with drawn:=w.drawn+1 }) (df:=a.defers) R (fun D a w i d K hi hD hr A hK=>At.step hT R hg hdst hi (e2 d (List.mem_of_getElem? hi)).g (abl R C hi hD A.closed hr).1 (abl R C hi hD A.closed hr).2 hD hr A hK) ?_ ops.size _ a _ (by simp) ?_ ?_)
 ·intro D a' w' hall A
  obtain ⟨g',h',q1,q2,q3,q4,q5⟩:=A.mem
  have hh:∀ o,h'.get o=st'.h.get o:=fun o=>by rw [q1 o,Z8 _ hall,c3 o]
  have hle:st.nx≤st'.nx:=by rw [c4];exact qy mono1 ds.length 0 (Nat.zero_le _)
  refine hK L' st' g' w' a' e5 (hc1.step (hnear _ _ e5) ⟨hle,?_⟩ (q2.congr hh)) ⟨A.size,fun t=>?_⟩ (by rw [A.defers];exact Marks.congr (Marks.step q3 hd') hh) A.defers
  ·rw [c4];exact q3.congr hh
  ·rw [c2 t,← aa8 _ hall];exact q4 t
 ·exact aid _ _
 ·have hf:(fun k=>(Array.replicate ops.size false).getD k false)=fun _=>false:=by
   funext k
   simp only [Array.getD_eq_getD_getElem?,Array.getElem?_replicate]
   split<;>rfl
  rw [hf]
  exact ⟨⟨g,st.h,fun o=>(Yy _).symm,hc1.ok,.refl _ _ _ _ _,fun t=>by
   rw [Xp];exact (hr.2 t).ext (Ext.same (w:=w) (w':={ w with drawn:=w.drawn+1 }) rfl),fun i d hd _ o h1 h9=>hc.fresh o (by
   have:=qy mono1 i 0 (Nat.zero_le _)
   rw [(c1 i d hd).2.2.1] at h1
   exact Nat.le_trans this h1) (hnear _ _ e5 o (by
   have:=qy mono1 i 0 (Nat.zero_le _)
   rw [(c1 i d hd).2.2.1] at h1
   exact Nat.le_trans this h1) (by
   rw [c4]
   have h10:=qy mono1 ds.length (i+1) (List.getElem?_eq_some_iff.1 hd).1
   rw [n8.eq_2,hd] at h10
   exact Nat.lt_of_lt_of_le h9 h10))⟩,hr.1,rfl,fun i k hik=>by cases hik⟩
theorem ua {P:Program} [KP P] {b:Frame} {a:Act} {k:List Item} {cs:List Frame} {w:World} {c:Code}:step P (lone (b.atR a (.code (.scope c)::k)) cs w) = .next (lone (b.atR a (.code c :: .inScope c::k)) cs w):=
 step_lone_go (by simp [stepG,stepG.exec,Frame.atR])
theorem Zd {P:Program} [KP P] {b:Frame} {a:Act} {k:List Item} {cs:List Frame} {w:World} {c:Code}:step P (lone (b.atR a (.inScope c::k)) cs w) = .next (lone (b.atR a k) cs w):=
 step_lone_go (by simp [stepG,stepG.exec,Frame.atR])
theorem J2 {F:Fence} {n:Nat} {P:Program} [KP P] {Q:Exit→Act→World→Prop} {a:Act} {w:World} {c:Code} (h:c.wpIn F n P (Exit.noGoto Q) a w):(Code.scope c).wpIn F n P Q a w:=by
 intro b k cs hro hb hr
 obtain ⟨e,a₁,w₁,hq,harr⟩:=h b (.inScope c::k) cs hro hb hr
 have h0:=fenced_calm (P:=P) (F:=F) (fr:=b.atR a (.code (.scope c)::k)) (cs:=cs) (w:=w) (n:=n) hb hr rfl
 cases e with
 |normal=>exact ⟨.normal,a₁,w₁,hq,.head h0 ua (StepsIn.trans harr (.one (fenced_calm (fr:=b.atR a₁ (.inScope c::k)) hb hr rfl) Zd))⟩
 |exit id=>
  have hx:exitTo id (.inScope c::k)=exitTo id k:=by simp [exitTo]
  exact ⟨.exit id,a₁,w₁,hq,fun k' hk=>.head h0 ua (harr.1 k' (by rw [hx];exact hk)),
   fun hr' hk=>let ⟨k₁,h1,h2⟩:=harr.2 hr' (by rw [hx];exact hk);⟨k₁,h1,.head h0 ua h2⟩⟩
 |goto l=>exact hq.elim
 |ret=>exact ⟨_,a₁,w₁,hq,.of_steps (.one h0 ua) harr⟩
 |panic ch=>exact ⟨_,a₁,w₁,hq,.of_steps (.one h0 ua) harr⟩
 |outgrown=>exact ⟨_,a₁,w₁,hq,.of_steps (.one h0 ua) harr⟩
theorem ao1 {P:Program} [KP P] {T:dv} (hT:an P T) (hm:P.follows .mixedOrders=true) {ro:Option Nat} {N:Nat} {B:dy} {nt:NT} (hnf:B.j5) (hp:B.az≤1000) (rf:Bool)
 (hrf:rf=true→∀ f ps asg body,dt nt (.rangeFunc f ps asg body)=true→P2 P ro N B nt (.rangeFunc f ps asg body) (wl P T B.az (.rangeFunc f ps asg body))) :
 ∀ c:Code,dt nt c=true→(rf=true∨c.si=true)→P2 P ro N B nt c (wl P T B.az c):=by
 intro c
 have both:∀ {x y:Bool},(rf=true∨(x && y)=true)→(rf=true∨x=true)∧(rf=true∨y=true):=by
  intro x y h
  rcases h with h|h
  ·exact ⟨.inl h,.inl h⟩
  ·rw [Bool.and_eq_true] at h;exact ⟨.inr h.1,.inr h.2⟩
 induction c with
 |skip=>intro _ _ Q L st g w a h hc hr hd;exact wpIn_skip (Fin.mk' (e:=.normal) h hc hr hd)
 |label l=>intro _ _ Q L st g w a h hc hr hd;exact wpIn_label (Fin.mk' (e:=.normal) h hc hr hd)
 |exit id=>intro _ _ Q L st g w a h hc hr hd;exact wpIn_exit (Fin.mk' (e:=.exit id) h hc hr hd)
 |ret=>intro _ _ Q L st g w a h hc hr hd;exact wpIn_ret (Fin.mk' (e:=.ret) h hc hr hd)
 |region id ops draw=>
  intro hs hpl Q L st g w a h hc hr hd
  simp only [dt,Bool.and_eq_true] at hs
  cases draw with
  |false=>
   refine wpIn_region (ail hT hnf hs.2 hs.1 (fun L st g w a h hc hr hd=>Fin.mk' (e:=.normal) h hc hr hd) ops.toList _ (by simp) (F2 ops) L st g w a h hc hr hd)
  |true=>exact abp hT.toF hm hs.2 hs.1 (fun _ _ _=>hnf.qh _ _) (fun L st g w a h hc hr hd _=>Fin.mk' (e:=.normal) h hc hr hd) h hc hr hd
 |seq x y ihx ihy=>
  intro hs hpl Q L st g w a h hc hr hd
  simp only [dt,Bool.and_eq_true] at hs
  refine wpIn_seq (wpIn_mono (ihx hs.1 (both hpl).1 _ L st g w a h hc hr hd) ?_)
  rintro ex a' w' ⟨e,L',st',g',rfl,hq,hc',hr',hd'⟩
  cases e with
  |normal=>exact ihy hs.2 (both hpl).2 Q L' st' g' w' a' hq hc' hr' hd'
  |exit id=>exact ⟨.exit id,L',st',g',rfl,hq,hc',hr',hd'⟩
  |ret=>exact ⟨.ret,L',st',g',rfl,hq,hc',hr',hd'⟩
 |cond c x y ihx ihy=>
  intro hs hpl Q L st g w a h hc hr hd
  simp only [dt,Bool.and_eq_true] at hs
  obtain ⟨v,hv,h1,h2⟩:=Ph h
  have hev:=Si (hr.eval c) hv
  cases v with
  |true=>exact wpIn_cond_true hev (ihx hs.1 (both hpl).1 Q L st g w a (h1 rfl) hc hr hd)
  |false=>exact wpIn_cond_false hev (ihy hs.2 (both hpl).2 Q L st g w a (h2 rfl) hc hr hd)
 |block id x ih=>
  intro hs hpl Q L st g w a h hc hr hd
  refine wpIn_block (wpIn_mono (ih hs hpl _ L st g w a h hc hr hd) ?_)
  rintro ex a' w' ⟨e,L',st',g',rfl,hq,hc',hr',hd'⟩
  cases e with
  |normal=>exact ⟨.normal,L',st',g',rfl,hq,hc',hr',hd'⟩
  |ret=>exact ⟨.ret,L',st',g',rfl,hq,hc',hr',hd'⟩
  |exit j=>
   simp only [Jb] at hq
   by_cases e:j=id
   ·subst e
    simp only [Nat.beq_refl,cond_true] at hq
    simp only [sh,Exit.inBlock,if_true]
    exact ⟨.normal,L',st',g',rfl,hq,hc',hr',hd'⟩
   ·rw [ou e,cond_false] at hq
    simp only [sh,Exit.inBlock,if_neg e]
    exact ⟨.exit j,L',st',g',rfl,hq,hc',hr',hd'⟩
 |loop x ih=>
  intro hs hpl Q L st g w a h hc hr hd
  exact awa hnf hp (ih hs hpl) Q L st g w a h hc hr hd
 |scope x ih=>
  intro hs hpl Q L st g w a h hc hr hd
  refine J2 (wpIn_mono (ih hs hpl Q L st g w a h hc hr hd) ?_)
  rintro ex a' w' ⟨e,L',st',g',rfl,hq,hc',hr',hd'⟩
  cases e<;>exact ⟨_,L',st',g',rfl,hq,hc',hr',hd'⟩
 |rangeFunc f ps asg body=>
  intro hs hpl
  rcases hpl with hpl|hpl
  ·exact hrf hpl f ps asg body hs
  ·cases hpl
 |goto l=>intro _ _ Q L st g w a h;exact h.elim
 |refuse why=>intro _ _ Q L st g w a h;exact h.elim
theorem abw {P:Program} [KP P] {T:dv} (hT:an P T) (hm:P.follows .mixedOrders=true) {ro:Option Nat} {N:Nat} {B:dy} {nt:NT} (hnf:B.j5) (hp:B.az≤1000) (c:Code) (hs:dt nt c=true) (hpl:c.si=true):P2 P ro N B nt c (wl P T B.az c):=
 ao1 hT hm hnf hp false (fun h=>by cases h) c hs (.inr hpl)
def ke (g:Gh) (h:Tr bh) (w:World) (p:Nat) (x:Nat→Prop) (far:Nat→Prop:=fun _=>False):dy:=
 { b0:=g.b0,w,K:=g.K,O:=fun b=>x b∨∃ o base,(h.get o).isSome=true∧g.inj o=some (b,base),az:=p,pb:=g.inj,n0:=0,far:=far }
theorem js.Pk {B g st w} (h:js B g st w) (p:Nat) (x:Nat→Prop) (hp:p≤st.nx) {far:Nat→Prop} (hf:∀ o,B.far o→far o):js (ke g st.h w p x far) g st w:=
 ⟨h.ok,fun o h1 h2=>h.fresh o h1 (fun h3=>h2 (hf o h3)),⟨rfl,fun _o _ho=>rfl,fun _ _ h=>h,fun _ _ _=>rfl,Nat.le_refl _,rfl,rfl,rfl,fun _ _ _=>rfl,fun o _b base ho hi=>.inr (.inr ⟨o,base,ho,hi⟩),fun _ _ h=>.inl h,
  fun _b cs _e fr h=>⟨cs,fr,h,rfl⟩,fun _b l h=>⟨l,h⟩,fun _ _ _ _ _ _=>rfl⟩,hp⟩
theorem rz.comp {B g h w p x far g' h' w'} (b:rz B g h w) (c:rz (ke g h w p x far) g' h' w') (hp:B.az≤p) (hf:∀ o,B.far o→far o) (hx:∀ n,x n→B.w.heap.size≤n∨B.O n):rz B g' h' w':=by
 have hO:∀ n,(ke g h w p x far).O n→B.w.heap.size≤n∨B.O n:=by
  rintro n (hn|⟨o,base,h1,h2⟩)
  ·exact hx n hn
  ·exact b.own o n base h1 h2
 refine ⟨c.b0.trans b.b0,fun o ho=>?_,fun i j hk=>c.K i j (b.K i j hk),fun i j hk=>(c.cell i j (b.K i j hk)).trans (b.cell i j hk),Nat.le_trans b.size c.size,c.os.trans b.os,c.tape.trans b.tape,c.output.trans b.output,fun n hn hnO=>?_,fun o n base ho hi=>?_,fun n j hk=>?_,fun n cs e fr hn=>?_,fun n l hn=>?_,fun n cs e fr hn hK=>(c.whole n cs e fr ((b.whole n cs e fr hn hK).trans hn) (fun j=>b.K n j (hK j))).trans (b.whole n cs e fr hn hK)⟩
 ·have h1:=c.pins o (ho.imp (fun h=>Nat.lt_of_lt_of_le h hp) (hf o))
  exact Eq.trans h1 (b.pins o ho)
 ·refine (c.frame n (Nat.lt_of_lt_of_le hn b.size) (fun hO'=>?_)).trans (b.frame n hn hnO)
  rcases hO n hO' with h1|h1
  ·omega
  ·exact hnO h1
 ·rcases c.own o n base ho hi with h1|h1
  ·exact .inl (Nat.le_trans b.size h1)
  ·exact hO n h1
 ·rcases c.oj n j hk with h1|h1|h1
  ·exact b.oj n j h1
  ·exact .inr (.inl (Nat.le_trans b.size h1))
  ·exact .inr (hO n h1)
 ·obtain ⟨cs1,fr1,h1,h2⟩:=b.sg n cs e fr hn
  obtain ⟨cs2,fr2,h3,h4⟩:=c.sg n cs1 e fr1 h1
  exact ⟨cs2,fr2,h3,h4.trans h2⟩
 ·obtain ⟨l1,h1⟩:=b.lp n l hn
  exact c.lp n l1 h1
theorem rz.abf {g h w p x far g' h' w'} (c:rz (ke g h w p x far) g' h' w') (hn:∀ o,p≤o→¬ far o→g.inj o=none):Ext g w g' w':=
 ⟨c.b0,(fun o q hq=>by
  by_cases ho:o<p∨far o
  ·exact (c.pins o ho).trans hq
  ·rw [hn o (by omega) (fun h=>ho (.inr h))] at hq;cases hq),c.K,c.cell,c.sg,c.lp,c.whole⟩
theorem rz.az5 {g h w p x y far g' h' w'} (c:rz (ke g h w p x far) g' h' w') (hxy:∀ n,x n→y n):rz (ke g h w p y far) g' h' w':=by
 have hO:∀ n,(ke g h w p x far).O n→(ke g h w p y far).O n:=fun n hn=>hn.imp (hxy n) id
 exact ⟨c.b0,c.pins,c.K,c.cell,c.size,c.os,c.tape,c.output,fun n hn hnO=>c.frame n hn (fun h=>hnO (hO n h)),fun o n base ho hi=>(c.own o n base ho hi).imp id (hO n),fun n j hk=>(c.oj n j hk).imp id (·.imp id (hO n)),c.sg,c.lp,c.whole⟩
theorem rz.Nc {g h w p x far g' h' w' b} (c:rz (ke g h w p x far) g' h' w') (hb:b<w.heap.size) (hu:ir g h b) (hx:¬ x b):ir g' h' b∧w'.heap[b]? = w.heap[b]? := by
 have hO:¬ (ke g h w p x far).O b:=by
  rintro (h1|⟨o,base,h1,h2⟩)
  ·exact hx h1
  ·exact hu o base h1 h2
 refine ⟨fun o base ho hi=>?_,c.frame b hb hO⟩
 rcases c.own o b base ho hi with h1|h1
 ·have:w.heap.size≤b:=h1;omega
 ·exact hO h1
theorem Marks.base {D g h w p x far g' h' w' n0 ds} (c:rz (ke g h w p x far) g' h' w') (hm:Marks D n0 h g w ds) (hx:∀ b,x b→∃ l,w.heap[b]? = some (.loop l)):Marks D n0 h' g' w' ds:=by
 obtain ⟨bs,h1,h2,h3⟩:=hm
 refine ⟨bs,h1,h2,fun b hb=>?_⟩
 obtain ⟨q1,q2,q3⟩:=h3 b hb
 have:=c.Nc (br q2) q3 (fun hxb=>by obtain ⟨l,hl⟩:=hx b hxb;rw [q2] at hl;cases hl)
 exact ⟨q1,this.2.trans q2,this.1⟩
theorem ank {g h w w'} (lo hi:Nat) (hok:Ok g h w) (hsz:w.heap.size≤w'.heap.size) (hh:∀ b,b<w.heap.size→w'.heap[b]? = w.heap[b]?) (h1:w'.os=w.os) (h2:w'.tape=w.tape) (h3:w'.output=w.output) :
 Step g h w lo hi g h w'∧Ok g h w':=by
 have hext:Ext g w g w':=⟨rfl,fun _ _ h=>h,fun _ _ h=>h,fun b j hj=>nr (hh b (hok.K b j hj)),fun b cs e fr hb=>⟨cs,fr,(hh b (br hb)).trans hb,rfl⟩,fun b l hb=>⟨l,(hh b (br hb)).trans hb⟩,fun b cs e fr hb _=>hh b (br hb)⟩
 refine ⟨⟨hext,hsz,h1,h2,h3,fun b hb _=>hh b hb,fun _ h _=>h,fun o b base ho hi=>.inr ⟨o,base,ho,hi⟩,fun b j hk=>.inl hk⟩,⟨Nat.le_trans hok.size hsz,fun o x hx=>?_,hok.sep,fun b j hk=>Nat.lt_of_lt_of_le (hok.K b j hk) hsz⟩⟩
 refine (hok.qg o x hx).imp id ?_
 rintro ⟨b,base,p1,p2,p3⟩
 exact ⟨b,base,p1,p2,p3.ext hext (hh b p3.lt) (fun _ hk=>hk)⟩
theorem xk {B g st w l r r'} (hc:js B g st w) (hl:w.heap[l]? = some (.loop r)) (hu:ir g st.h l) (hO:B.O l):js B g st (gp w l (.loop r'))∧Ext g w g (gp w l (.loop r')):=by
 have hne:∀ {c:Nat} {o:Obj},w.heap[c]? = some o→(∀ r,o ≠ .loop r)→c≠l:=fun hc ho e=>by
  subst e
  rw [hl] at hc;cases hc
  exact ho r rfl
 have hcell:∀ c j,(gp w l (.loop r')).cell? ⟨c,j,none⟩=w.cell? ⟨c,j,none⟩:=fun c j=>by
  by_cases e:c=l
  ·subst e
   simp [World.cell?,ia _ (br hl),hl]
  ·exact nr (ec w _ e)
 have hext:Ext g w g (gp w l (.loop r')):=by
  refine ⟨rfl,fun _ _ h=>h,fun _ _ h=>h,fun c j _=>hcell c j,fun c cs e fr h=>?_,fun c q h=>?_,fun c cs e fr h _=>ec w _ (hne h (fun r e=>by cases e))⟩
  ·exact ⟨cs,fr,(ec w _ (hne h (fun r e=>by cases e))).trans h,rfl⟩
  ·by_cases e:c=l
   ·subst e;exact ⟨r',ia _ (br hl)⟩
   ·exact ⟨q,(ec w _ e).trans h⟩
 refine ⟨⟨⟨by rw [lg];exact hc.ok.size,fun o x hx=>?_,hc.ok.sep,fun c j hk=>by rw [lg];exact hc.ok.K c j hk⟩,hc.fresh,?_,hc.az⟩,hext⟩
 ·refine (hc.ok.qg o x hx).imp id ?_
  rintro ⟨c,base,h1,h2,h3⟩
  exact ⟨c,base,h1,h2,h3.ext hext (ec w _ (fun e=>hu o base (by rw [hx];rfl) (by rw [← e];exact h1))) (fun _ h=>h)⟩
 ·have b:=hc.base
  refine ⟨b.b0,b.pins,b.K,fun c j hk=>(hcell c j).trans (b.cell c j hk),by rw [lg];exact b.size,b.os,b.tape,b.output,fun c hc' hcO=>?_,b.own,b.oj,fun c cs e fr h=>?_,fun c q h=>?_,fun c cs e fr h hK=>(ec w _ (hne ((b.whole c cs e fr h hK).trans h) (fun r e=>by cases e))).trans (b.whole c cs e fr h hK)⟩
  ·exact (ec w _ (fun e=>hcO (by rw [e];exact hO))).trans (b.frame c hc' hcO)
  ·obtain ⟨cs1,fr1,h1,h2⟩:=b.sg c cs e fr h
   exact ⟨cs1,fr1,(ec w _ (hne h1 (fun r e=>by cases e))).trans h1,h2⟩
  ·obtain ⟨q1,h1⟩:=b.lp c q h
   exact hext.lp c q1 h1
theorem Marks.xk {D n0 h g w ds l r r'} (hm:Marks D n0 h g w ds) (hl:w.heap[l]? = some (.loop r)):Marks D n0 h g (gp w l (.loop r')) ds:=by
 obtain ⟨bs,h1,h2,h3⟩:=hm
 refine ⟨bs,h1,h2,fun b hb=>⟨(h3 b hb).1,(ec w _ (fun e=>?_)).trans (h3 b hb).2.1,(h3 b hb).2.2⟩⟩
 have:=(h3 b hb).2.1
 rw [e,hl] at this;cases this
theorem am7 (h:Tr bh):∀ (n:Nat) (todo acc:List Nat) (o:Nat),o ∈ reach h n todo acc→o ∈ acc∨(h.get o).isSome=true:=by
 intro n
 induction n with
 |zero=>intro todo acc o ho;exact .inl ho
 |succ n ih=>
  intro todo acc o ho
  cases todo with
  |nil=>exact .inl ho
  |cons a r=>
   simp only [reach] at ho
   cases hc:acc.contains a with
   |true=>rw [hc] at ho;exact ih r acc o ho
   |false=>
    rw [hc,cond_false] at ho
    cases ha:h.get a with
    |none=>rw [ha] at ho;exact ih r acc o ho
    |some x=>
     rw [ha] at ho
     rcases ih _ _ o ho with h1|h1
     ·rcases List.mem_append.1 h1 with h2|h2
      ·exact .inl h2
      ·simp at h2;subst h2;exact .inr (by rw [ha];rfl)
     ·exact .inr h1
theorem Pv {B:dy} {g:Gh} {st:St} {w:World} (_hc:js B g st w) (keep:List Nat) (L:SL) :
 B.az≤(ey B.az keep L st).length∧(ey B.az keep L st).length≤(bf (ey B.az keep L st)).nx∧(∀ i,(ey B.az keep L st).length≤i→(g.dm (gq B.az keep L st)).inj i=none):=by
 have hN:=xr st.h fk (AV.names.go (keep.map (lk L))++nf st.h (dw 0 B.az)) (dw 0 B.az) (p9 _ _)
 have hm:=am7 st.h fk (AV.names.go (keep.map (lk L))++nf st.h (dw 0 B.az)) (dw 0 B.az)
 change (gq B.az keep L st).Nodup∧(∃ r,gq B.az keep L st=dw 0 B.az++r)∧(gq B.az keep L st).length≤_ at hN
 change ∀ o,o ∈ gq B.az keep L st→_ at hm
 unfold ey
 rw [i7]
 generalize gq B.az keep L st=N at hN hm
 obtain ⟨_,⟨rest,hpre⟩,_⟩:=hN
 refine ⟨by rw [hpre,List.length_append,ja];omega,by simp [bf,i7],fun i hi=>by simp [Gh.dm,List.getElem?_eq_none hi]⟩
theorem Cw {B:dy} {g:Gh} {st:St} {L:SL} {b:Nat} (hp:B.az≤1000) (keep:List Nat) (hu:ir g st.h b):ir (g.dm (gq B.az keep L st)) (bf (ey B.az keep L st)).h b:=by
 have hN:=xr st.h fk (AV.names.go (keep.map (lk L))++nf st.h (dw 0 B.az)) (dw 0 B.az) (p9 _ _)
 change (gq B.az keep L st).Nodup∧(∃ r,gq B.az keep L st=dw 0 B.az++r)∧(gq B.az keep L st).length≤_ at hN
 unfold ey
 generalize gq B.az keep L st=N at hN
 obtain ⟨hnd,⟨rest,hpre⟩,hlen⟩:=hN
 rw [ja] at hlen
 have hlim:N.length≤di:=by simp only [fk,di] at *;omega
 intro i base hi hj
 obtain ⟨x,hx⟩:=Option.isSome_iff_exists.1 hi
 simp only [bf] at hx
 rw [u7 _ _ _ (by rw [i7];omega),if_pos (Nat.zero_le _),Nat.sub_zero,vk] at hx
 cases hi':N[i]? with
 |none=>rw [hi'] at hx;cases hx
 |some o=>
  rw [hi'] at hx
  simp only [Option.map_some,Option.join_some] at hx
  cases hy:st.h.get o with
  |none=>rw [hy] at hx;cases hx
  |some y=>
   have:(g.dm N).inj i=g.inj o:=by simp [Gh.dm,hi']
   rw [this] at hj
   exact hu o base (by rw [hy];rfl) hj
def aob:Ex→Code
 |.ret=>.ret
 |.exit id=>.exit id
 |.normal=>.skip
def Qs:Ex→Bool
 |.normal=>true
 |_=>false
structure ub where
 fn:FuncId
 tmps:Array Value
 params:Array Tmp
 assign:Code
 body:Code
 defers:Nat
def ub.at (r:ub) (pe:Option Ex):Loop:={ state:=match pe with|none=>.ready|some _=>.done,pending:=pe.map aob,fn:=r.fn,tmps:=r.tmps,params:=r.params,assign:=r.assign,body:=r.body,defers:=r.defers }
def avg (e:Ex):Option Ex:=
 match e with
 |.normal=>none
 |e=>some e
def Io (B:dy) (nt:NT) (l:Nat) (rec:ub) (Q:QI):Exit→Act→World→Prop:=fun ex a w=>
 ∃ e pe L st g,ex=sh e∧Q e pe L st∧js B g st w∧ig g w nt L a.tmps∧a.defers=[]∧w.heap[l]? = some (.loop (rec.at pe))∧ir g st.h l
theorem Io.mk' {B nt l rec} {Q:QI} {e pe L st g} {a:Act} {w:World} (hq:Q e pe L st) (hc:js B g st w) (hr:ig g w nt L a.tmps) (hd:a.defers=[]) (hl:w.heap[l]? = some (.loop (rec.at pe))) (hu:ir g st.h l) :
 Io B nt l rec Q (sh e) a w:=⟨e,pe,L,st,g,rfl,hq,hc,hr,hd,hl,hu⟩
def Zx (P:Program) (l:Nat) (rec:ub) (R:He) (B1:dy):Prop:=
 ∀ (N p:Nat) (args:List AV) (X:Ex→St→Prop) (g:Gh) (st:St) (w:World) (vs:List Value),js B1 g st w→B1.az≤p→p≤st.nx→(∀ o,p≤o→g.inj o=none)→bm g w args vs →
  w.heap[l]? = some (.loop (rec.at none))→ir g st.h l→R p args X st →
  ∃ f tmps asg body,(Instr.yield l vs.toArray).run P w = .ok (.round l f tmps asg body) w∧RoundIn (eh none) N P l f tmps asg body w (fun e w'=>∃ ex st' g',X ex st'∧e = .returned (.bool (Qs ex))∧js (ke g st.h w p (· = l)) g' st' w' ∧
   w'.heap[l]? = some (.loop (rec.at (avg ex)))∧ir g' st'.h l)
theorem ad2 {l:Nat} {a:AV} {g w v} (h:Az l a=true) (hr:Rel g w a v):v = .func (.yield l) #[] #[]:=by
 unfold Az at h
 split at h
 ·rename_i x
  split at h
  ·rename_i f va vb
   split at h
   ·rename_i k
    simp only [Bool.and_eq_true] at h
    have:=hr.exact rfl
    subst this
    obtain ⟨⟨h1,h2⟩,h3⟩:=h
    have h1:=Nat.eq_of_beq_eq_true h1
    have h2:va = #[]:=Array.eq_empty_of_size_eq_zero (Nat.eq_of_beq_eq_true h2)
    have h3:vb = #[]:=Array.eq_empty_of_size_eq_zero (Nat.eq_of_beq_eq_true h3)
    rw [h1,h2,h3]
   ·cases h
  ·cases h
 ·cases h
theorem amy {P:Program} [KP P] {o:Oper} {f:Operand} {args:Array Operand} {ts:Array TypeId} {ρ:Operand→Value} {l:Nat} (ho:o.op = .call { callee:=.value f,args,argTypes:=ts })
 (hf : ρ f = .func (.yield l) #[] #[]) (w:World):(execOp ρ o).run P w=(Instr.yield l (args.map ρ)).run P w:=by
 simp [execOp,ho,resolve,hf,Deferred.ofValue,invoke]
theorem avp {P:Program} [KP P] {T:dv} (hT:an P T) {ops:Array Oper} {N:Nat} {B:dy} {nt:NT} {l:Nat} {rec:ub} {R:He} (hnf:B.j5) (hp:B.az≤1000) (hR:Zx P l rec R B) (hO:B.O l) {Q:Exit→Act→World→Prop} {K:Option Ex→SL→St→Prop} (hg:kp nt ops=true) (hd:oa nt ops=true)
 (hK:∀ pe L st g w a,K pe L st→js B g st w→ig g w nt L a.tmps→a.defers=[]→w.heap[l]? = some (.loop (rec.at pe))→ir g st.h l→Q .normal a w) :
 ∀ (ls:List Oper) (is:List Nat),(∀ o ∈ ls,o ∈ ops)→is.map (fun i=>ops[i]?)=ls.map some→∀ pe L st g w a,Dz P T l R B.az ops ls K pe L st→js B g st w→ig g w nt L a.tmps→a.defers=[] →
  w.heap[l]? = some (.loop (rec.at pe))→ir g st.h l→wpOpsIn (eh none) N P ops Q is a w:=by
 intro ls
 induction ls with
 |nil=>
  intro is _ his pe L st g w a h hc hr hdf hl hu
  cases is with
  |nil=>exact hK pe L st g w a h hc hr hdf hl hu
  |cons i is=>cases his
 |cons o ls ih=>
  intro is hmem his pe L st g w a h hc hr hdf hl hu
  cases is with
  |nil=>cases his
  |cons i is=>
   simp only [List.map_cons,List.cons.injEq] at his
   obtain ⟨hi,his⟩:=his
   have ho:=hmem o (by simp)
   have hmem':∀ o ∈ ls,o ∈ ops:=fun o ho=>hmem o (by simp [ho])
   simp only [wpOpsIn,hi]
   rcases tm hr (uu hg ho) h with ⟨hw,h1⟩|⟨hw,h1⟩
   ·rw [hw,if_pos rfl]
    unfold opI U4 at h1
    cases hy:yieldOf l o L with
    |none=>
     rw [hy] at h1
     simp only at h1
     unfold G9 at h1
     cases hop:fo P T o (dh L) st with
     |none=>rw [hop] at h1;exact h1.elim
     |some q=>
      obtain ⟨v,st'⟩:=q
      rw [hop] at h1
      refine A5 hT hc.ok (hc.free (hnf.qh _ _)) hr.eval hop none N _ _ ?_
      rintro u w' ⟨g',q1,q2,q3⟩
      have hun:=ir.step q1 (br hl) hu
      exact ih is hmem' his pe _ st' g' w' _ h1 (hc.step (hnf.qh _ _) ⟨uw hop,q1⟩ q2) ((hr.ext q1.ext).put q3 (j4 hd ho)) (by rw [put_defers];exact hdf) (hun.2.trans hl) hun.1
    |some args=>
     rw [hy] at h1
     obtain ⟨rfl,keep,h1⟩:=h1
     have hcall:∃ f ts,o.op = .call { callee:=.value f,args,argTypes:=ts }∧Az l (dh L f)=true:=by
      unfold yieldOf at hy
      split at hy
      ·rename_i f args' ts he
       cases hb:Az l (dh L f) with
       |false=>rw [hb] at hy;cases hy
       |true=>rw [hb] at hy;cases hy;exact ⟨f,ts,he,hb⟩
      ·cases hy
     obtain ⟨f,ts,he,hb⟩:=hcall
     have hfv:=ad2 hb (hr.eval f)
     have cc:=D7 hnf hp keep hc hr
     have cn:=Pv hc keep L
     have cu:=Cw (L:=L) hp keep hu
     unfold zf at h1
     have hargs:=cc.2.eval.list args.toList
     obtain ⟨fn,tmps,asg,body,hrun,hround⟩:=hR (N - 1) _ _ _ _ _ _ _ cc.1 cn.1 cn.2.1 cn.2.2 hargs hl cu h1
     refine ⟨i4 none P o a w,?_⟩
     rw [Oper.semAt_eq _ _ _ (Fq he),amy he hfv,show args.map a.eval=(args.toList.map a.eval).toArray from (by apply Array.ext';simp),hrun]
     refine ⟨(fun h=>(by cases h)),hround.mono ?_⟩
     rintro e w' ⟨ex,st',g',hX,rfl,hc',hl',hu'⟩
     have hext:=hc'.base.abf (fun o h _=>cn.2.2 o h)
     have hcB:js B g' st' w':=⟨hc'.ok,fun o h1 _=>hc'.fresh o h1 (fun h=>h),cc.1.base.comp hc'.base cn.1 (fun o h=>(hnf o h).elim) (fun n hn=>by subst hn;exact .inr hO),Nat.le_trans cn.1 hc'.az⟩
     have hr':=(cc.2.ext hext).put (.sc (.bool (Qs ex))) (j4 hd ho)
     show wpOpsIn (eh none) N P ops Q is (a.put o.dst (.bool (Qs ex))) w'
     cases ex with
     |normal=>exact ih is hmem' his _ _ st' g' w' _ hX hcB hr' (by rw [put_defers];exact hdf) hl' hu'
     |ret=>exact ih is hmem' his _ _ st' g' w' _ hX hcB hr' (by rw [put_defers];exact hdf) hl' hu'
     |exit id=>exact ih is hmem' his _ _ st' g' w' _ hX hcB hr' (by rw [put_defers];exact hdf) hl' hu'
   ·rw [hw,if_neg (by simp)]
    refine ⟨i4 none P o a w,?_⟩
    exact ih is hmem' his pe _ st g w _ h1 hc (hr.put (.sc _) (j4 hd ho)) (by rw [put_defers];exact hdf) hl hu
theorem ayi {P:Program} [KP P] {T:dv} (hT:an P T) (hm:P.follows .mixedOrders=true) {N:Nat} {B:dy} {nt:NT} {l:Nat} {rec:ub} {R:He} (hnf:B.j5) (hp:B.az≤1000) (hR:Zx P l rec R B) (hO:B.O l) :
 ∀ (c:Code),dt nt c=true→∀ (Q:QI) pe L st g w a,oq P T l R B.az c Q pe L st→js B g st w→ig g w nt L a.tmps→a.defers=[]→w.heap[l]? = some (.loop (rec.at pe))→ir g st.h l →
  c.wpIn (eh none) N P (Io B nt l rec Q) a w:=by
 intro c
 induction c with
 |skip=>intro _ Q pe L st g w a h hc hr hd hl hu;exact wpIn_skip (Io.mk' (e:=.normal) h hc hr hd hl hu)
 |label k=>intro _ Q pe L st g w a h hc hr hd hl hu;exact wpIn_label (Io.mk' (e:=.normal) h hc hr hd hl hu)
 |exit id=>intro _ Q pe L st g w a h hc hr hd hl hu;exact wpIn_exit (Io.mk' (e:=.exit id) h hc hr hd hl hu)
 |ret=>intro _ Q pe L st g w a h hc hr hd hl hu;exact wpIn_ret (Io.mk' (e:=.ret) h hc hr hd hl hu)
 |region id ops draw=>
  intro hs Q pe L st g w a h hc hr hd hl hu
  simp only [dt,Bool.and_eq_true] at hs
  cases draw with
  |false=>exact wpIn_region (avp hT hnf hp hR hO hs.2 hs.1 (fun pe L st g w a h hc hr hd hl hu=>Io.mk' (e:=.normal) h hc hr hd hl hu) ops.toList _ (by simp) (F2 ops) pe L st g w a h hc hr hd hl hu)
  |true=>
   have hc0:=hc.Pk B.az (fun _=>False) hc.az (far:=fun _=>False) (fun o h=>(hnf o h).elim)
   refine abp hT.toF hm hs.2 hs.1 (fun _ _ _ _ _ _ h=>h) (fun L' st' g' w' a' h' hc' hr' _ hdd=>?_) h hc0 hr (by rw [hd];exact Marks.nil _ _ _ _)
   have hun:=hc'.base.Nc (br hl) hu (fun h=>h)
   exact Io.mk' (e:=.normal) h' ⟨hc'.ok,fun o h1 _=>hc'.fresh o h1 (fun h=>h),hc.base.comp hc'.base (Nat.le_refl _) (fun o h=>(hnf o h).elim) (fun _ h=>h.elim),hc'.az⟩ hr' (hdd.trans hd) (hun.2.trans hl) hun.1
 |seq x y ihx ihy=>
  intro hs Q pe L st g w a h hc hr hd hl hu
  simp only [dt,Bool.and_eq_true] at hs
  refine wpIn_seq (wpIn_mono (ihx hs.1 _ pe L st g w a h hc hr hd hl hu) ?_)
  rintro ex a' w' ⟨e,pe',L',st',g',rfl,hq,hc',hr',hd',hl',hu'⟩
  cases e with
  |normal=>exact ihy hs.2 Q pe' L' st' g' w' a' hq hc' hr' hd' hl' hu'
  |exit id=>exact ⟨.exit id,pe',L',st',g',rfl,hq,hc',hr',hd',hl',hu'⟩
  |ret=>exact ⟨.ret,pe',L',st',g',rfl,hq,hc',hr',hd',hl',hu'⟩
 |cond c x y ihx ihy=>
  intro hs Q pe L st g w a h hc hr hd hl hu
  simp only [dt,Bool.and_eq_true] at hs
  obtain ⟨v,hv,h1,h2⟩:=Ph h
  have hev:=Si (hr.eval c) hv
  cases v with
  |true=>exact wpIn_cond_true hev (ihx hs.1 Q pe L st g w a (h1 rfl) hc hr hd hl hu)
  |false=>exact wpIn_cond_false hev (ihy hs.2 Q pe L st g w a (h2 rfl) hc hr hd hl hu)
 |block id x ih=>
  intro hs Q pe L st g w a h hc hr hd hl hu
  refine wpIn_block (wpIn_mono (ih hs _ pe L st g w a h hc hr hd hl hu) ?_)
  rintro ex a' w' ⟨e,pe',L',st',g',rfl,hq,hc',hr',hd',hl',hu'⟩
  cases e with
  |normal=>exact ⟨.normal,pe',L',st',g',rfl,hq,hc',hr',hd',hl',hu'⟩
  |ret=>exact ⟨.ret,pe',L',st',g',rfl,hq,hc',hr',hd',hl',hu'⟩
  |exit j=>
   simp only [Qc] at hq
   by_cases e:j=id
   ·subst e
    simp only [Nat.beq_refl,cond_true] at hq
    simp only [sh,Exit.inBlock,if_true]
    exact ⟨.normal,pe',L',st',g',rfl,hq,hc',hr',hd',hl',hu'⟩
   ·rw [ou e,cond_false] at hq
    simp only [sh,Exit.inBlock,if_neg e]
    exact ⟨.exit j,pe',L',st',g',rfl,hq,hc',hr',hd',hl',hu'⟩
 |loop x ih=>
  intro hs Q pe L st g w a h hc hr hd hl hu
  obtain ⟨rfl,keep,h⟩:=h
  refine z7 fun Y hY=>?_
  have hX:=h (fun vs os=>∀ g w a,js B g (bf os) w→ig g w nt (ic keep vs) a.tmps→a.defers=[]→w.heap[l]? = some (.loop (rec.at none))→ir g (bf os).h l→Y a w) (fun vs os hb g w a hc hr hd hl hu=>by
   refine hY a w (wpIn_mono (ih hs _ _ _ _ g w a hb hc hr hd hl hu) ?_)
   rintro ex a' w' ⟨e,pe',L',st',g',rfl,hq,hc',hr',hd',hl',hu'⟩
   cases e with
   |normal=>
    obtain ⟨rfl,hq⟩:=hq
    obtain ⟨vs',os',g1,hx,k1,k2,_,k4⟩:=M0 hnf hp keep hq hc' hr'
    exact hx g1 w' a' k1 k2 hd' hl' (k4 _ (Cw hp keep hu'))
   |exit id=>exact ⟨.exit id,pe',L',st',g',rfl,hq,hc',hr',hd',hl',hu'⟩
   |ret=>exact ⟨.ret,pe',L',st',g',rfl,hq,hc',hr',hd',hl',hu'⟩)
  obtain ⟨vs',os',g1,hx,k1,k2,_,k4⟩:=M0 hnf hp keep hX hc hr
  exact hx g1 w a k1 k2 hd hl (k4 _ (Cw hp keep hu))
 |scope x ih=>intro _ Q pe L st g w a h;exact h.elim
 |rangeFunc f ps x y _ _=>intro _ Q pe L st g w a h;exact h.elim
 |goto k=>intro _ Q pe L st g w a h;exact h.elim
 |refuse why=>intro _ Q pe L st g w a h;exact h.elim
theorem ae4:∀ (args:List AV) (i t:Nat),lk (bp i args) t=if i≤t then (args[t - i]?).getD .bad else .bad
 | [],i,t=>by simp [bp,lk]
 |a::r,i,t=>by
  rw [bp,mz,ae4 r (i+1) t]
  by_cases e:i=t
  ·subst e;simp
  ·rw [if_neg e]
   by_cases h:i+1≤t
   ·rw [if_pos h,if_pos (by omega),show t - i=(t - (i+1))+1 from by omega,List.getElem?_cons_succ]
   ·rw [if_neg h,if_neg (by omega)]
theorem zg {g w} {args:List AV} {vs:List Value} {nt:Nat} (h:bm g w args vs) (h1:args.length≤nt) :
 ig g w nt (bp 0 args) (vs.toArray++Array.replicate (nt - vs.toArray.size) undef):=by
 have hl:=h.1
 refine ⟨⟨by simp;omega,fun p hp=>by cases hp⟩,fun t=>?_⟩
 rw [ae4,if_pos (Nat.zero_le _),Nat.sub_zero]
 cases ha:args[t]? with
 |none=>exact .bad _
 |some a=>
  obtain ⟨v,hv,hr⟩:=h.get ha
  have ht:=(List.getElem?_eq_some_iff.1 hv).1
  rw [Array.getD_eq_getD_getElem?,Array.getElem?_append_left (by simp;omega)]
  simp only [List.getElem?_toArray,hv]
  exact hr
theorem O8 {g w} {nt:NT}:∀ (ps:List Tmp) (args:List AV) (vs:List Value) (L:SL) (tmps:Array Value),ps.all (fun t=>nt.has t)=true→args.length=ps.length→bm g w args vs→ig g w nt L tmps →
 ig g w nt (Af ps args L) ((ps.zip vs).foldl (fun t (p,v)=>t.setIfInBounds p v) tmps)
 | [],args,vs,L,tmps,_,hl,hr,h=>by
  cases args with
  |nil=>simpa [Af] using h
  |cons a r=>simp at hl
 |t::ps,args,vs,L,tmps,hps,hl,hr,h=>by
  cases args with
  |nil=>simp at hl
  |cons a args=>
   match vs,hr with
   | [],hr=>have:=hr.1;simp at this
   |v::vs,hr=>
    simp only [List.all_cons,Bool.and_eq_true] at hps
    have ht:=NT.Er hps.1
    refine O8 ps args vs ((t,a)::L) (tmps.setIfInBounds t v) hps.2 (by simpa using hl) hr.tail ⟨h.1.set hps.1,fun u=>?_⟩
    rw [mz,Array.getD_eq_getD_getElem?,Array.getElem?_setIfInBounds]
    by_cases e:t=u
    ·subst e;rw [if_pos rfl,if_pos rfl,if_pos (by rw [h.1.size];exact ht.1)];exact hr.head
    ·rw [if_neg e,if_neg e,← Array.getD_eq_getD_getElem?];exact h.2 u
theorem aqx {P:Program} [KP P] {T:dv} (hT:an P T) (hm:P.follows .mixedOrders=true) {B1:dy} {l:Nat} {nt:NT} {rec:ub} {L0:SL} (hnf:B1.j5) (hps:rec.params.toList.all (fun t=>nt.has t)=true)
 (hs1:dt nt rec.assign=true) (hs2:dt nt rec.body=true) (hp1:rec.assign.si=true) (hp2:rec.body.si=true) (hL0:∀ g h w,rz B1 g h w→ig g w nt L0 rec.tmps) :
 Zx P l rec (nb rec.params.toList (fun p=>wl P T p rec.assign) (fun p=>wl P T p rec.body) L0) B1:=by
 intro N p args X g st w vs hc hpp hn1 hn2 hargs hl hu hR
 obtain ⟨hlen,hp1000,hA⟩:=hR
 have hlen:=Nat.eq_of_beq_eq_true hlen
 have hp1000:=Nat.le_of_ble_eq_true hp1000
 have hvl:vs.length=args.length:=hargs.1
 have hsz:args.length=rec.params.size:=hlen.trans (Array.length_toList ..)
 have hy:=run_yield (P:=P) (args:=vs.toArray) hl (by show vs.toArray.size=rec.params.size;rw [List.size_toArray,hvl,hsz])
 refine ⟨_,_,_,_,hy,roundIn_of_wpIn trivial ?_⟩
 have hB2:=hc.Pk p (fun _=>False) hn1 (far:=fun _=>False) (fun o h=>(hnf o h).elim)
 have hrel:=O8 rec.params.toList args vs L0 rec.tmps hps hlen hargs (hL0 _ _ _ hc.base)
 have hfold:(((rec.at none).params.zip vs.toArray).foldl (fun tmps (x:Tmp × Value)=>tmps.setIfInBounds x.1 x.2) (rec.at none).tmps)=((rec.params.toList.zip vs).foldl (fun t (x:Tmp × Value)=>t.setIfInBounds x.1 x.2) rec.tmps):=by
  rw [← Array.foldl_toList]
  simp [ub.at]
 have h1:=abw hT hm (ro:=some l) (N:=N) (B:=ke g st.h w p (fun _=>False)) (nt:=nt) (fun _ h=>h) hp1000 rec.assign hs1 hp1 _ _ st g w { tmps:=((rec.at none).params.zip vs.toArray).foldl (fun tmps (x:Tmp × Value)=>tmps.setIfInBounds x.1 x.2) (rec.at none).tmps,defers:=[] } hA hB2
  (by show ig g w nt _ (((rec.at none).params.zip vs.toArray).foldl (fun tmps (x:Tmp × Value)=>tmps.setIfInBounds x.1 x.2) (rec.at none).tmps);rw [hfold];exact hrel) (Marks.nil _ _ _ _)
 refine wpIn_mono h1 ?_
 rintro ex a1 w1 ⟨e,L1,fl,g1,rfl,hq,hc1,hr1,hd1⟩
 cases e with
 |exit id=>exact hq.elim
 |ret=>exact hq.elim
 |normal=>
  have hun:=hc1.base.Nc (br hl) hu (fun h=>h)
  have hl1:=hun.2.trans hl
  refine ⟨_,run_beginRound hl1 rfl,?_⟩
  have hw1:js (ke g st.h w p (· = l)) g1 fl w1:=⟨hc1.ok,hc1.fresh,hc1.base.az5 (fun _ h=>h.elim),hc1.az⟩
  have hp2':=xk (r':={ rec.at none with state:=.busy }) hw1 hl1 hun.1 (.inl rfl)
  have hB3:=hp2'.1.Pk p (fun _=>False) hc1.az (far:=fun _=>False) (fun _ h=>h)
  have h2:=abw hT hm (ro:=some l) (N:=N) (B:=ke g1 fl.h (gp w1 l (.loop { rec.at none with state:=.busy })) p (fun _=>False)) (nt:=nt) (fun _ h=>h) hp1000 rec.body hs2 hp2 _ _ fl g1 _ a1 hq hB3 (hr1.ext hp2'.2) (hd1.xk hl1)
  refine wpIn_mono h2 ?_
  rintro ex a3 w3 ⟨e,L3,st3,g3,rfl,hq3,hc3,hr3,hd3⟩
  have hl2:(gp w1 l (.loop { rec.at none with state:=.busy })).heap[l]? = some (.loop { rec.at none with state:=.busy }):=ia _ (br hl1)
  have hun3:=hc3.base.Nc (br hl2) hun.1 (fun h=>h)
  have hl3:=hun3.2.trans hl2
  have hc3':js (ke g st.h w p (· = l)) g3 st3 w3:=⟨hc3.ok,hc3.fresh,hp2'.1.base.comp hc3.base (Nat.le_refl _) (fun _ h=>h) (fun _ h=>h.elim),hc3.az⟩
  cases e with
  |normal=>
   refine ⟨_,_,run_endRound none hl3,.normal,st3,g3,hq3,rfl,(xk (r':=rec.at none) hc3' hl3 hun3.1 (.inl rfl)).1,ia _ (br hl3),hun3.1⟩
  |ret=>
   refine ⟨_,_,run_endRound (some .ret) hl3,.ret,st3,g3,hq3,rfl,(xk (r':=rec.at (some .ret)) hc3' hl3 hun3.1 (.inl rfl)).1,ia _ (br hl3),hun3.1⟩
  |exit id=>
   refine ⟨_,_,run_endRound (some (.exit id)) hl3,.exit id,st3,g3,hq3,rfl,(xk (r':=rec.at (some (.exit id))) hc3' hl3 hun3.1 (.inl rfl)).1,ia _ (br hl3),hun3.1⟩
theorem afi {g w a v f caps} (h:Gw a=some (f,caps)) (hr:Rel g w a v):∃ vb:Array Value,v = .func (.func f) #[] vb∧bm g w caps vb.toList:=by
 unfold Gw at h
 split at h
 ·rename_i fx first captured
  split at h
  ·rename_i k
   cases h
   cases hr with
   |fn _ _ _ va vb hs hh hs' hh'=>
    have:va = #[]:=Array.eq_empty_of_size_eq_zero (by simpa using hs)
    subst this
    exact ⟨vb,rfl,⟨by simpa using hs',fun i x y hx hy=>hh' i x y hx (by simpa using hy)⟩⟩
  ·cases h
 ·rename_i x
  split at h
  ·rename_i fx first captured
   split at h
   ·rename_i k hf
    cases h
    have:=hr.exact rfl
    subst this
    have:first = #[]:=by apply Array.ext';simpa using hf
    subst this
    exact ⟨captured,rfl,bm.D5 g w _⟩
   ·cases h
  ·cases h
 ·cases h
theorem ajc {P:Program} [KP P] {f nt:Nat} {code:Code} (h:Br P f=some (nt,code)) :
 ∃ fn,P.funcs[f]? = some fn∧fn.body=some code∧l8 P f=true∧dt fn.ntmps code=true∧fn.results = #[]∧nt=fn.ntmps:=by
 unfold Br at h
 split at h
 ·rename_i fn hf
  split at h
  ·rename_i body hb
   cases hc:(l8 P f && dt fn.ntmps body && fn.results.isEmpty) with
   |false=>rw [hc] at h;cases h
   |true=>
    rw [hc] at h
    cases h
    simp only [Bool.and_eq_true] at hc
    exact ⟨fn,hf,hb,hc.1.1,hc.1.2,Array.isEmpty_iff.1 hc.2,rfl⟩
  ·cases h
 ·cases h
theorem arx {P:Program} [KP P] {T:dv} (hT:an P T) (hm:P.follows .mixedOrders=true) {N:Nat} {B:dy} {nt:NT} (hnf:B.j5) (hp:B.az≤1000) (hn0:B.n0≤B.w.heap.size) (f:Operand) (ps:Array Tmp) (asg body:Code) (hs:dt nt (.rangeFunc f ps asg body)=true) :
 P2 P none N B nt (.rangeFunc f ps asg body) (wl P T B.az (.rangeFunc f ps asg body)):=by
 intro Q L st g w a h hc hr hd
 simp only [dt,Bool.and_eq_true] at hs
 obtain ⟨⟨⟨⟨hs1,hs2⟩,hs3⟩,hs4⟩,hs5⟩:=hs
 obtain ⟨keep,hp1,h⟩:=h
 have hp1:=Nat.le_of_ble_eq_true hp1
 have cc:=D7 hnf hp keep hc hr
 have cn:=Pv hc keep L
 have cm:=By (L:=L) hp keep hd
 generalize ey B.az keep L st=os at hp1 h cc cn cm
 generalize gv B.az keep L st=vs at h cc
 generalize g.dm (gq B.az keep L st)=g2 at cc cn cm
 obtain ⟨hc2,hr2⟩:=cc
 obtain ⟨hn1,hn2,hn3⟩:=cn
 generalize ic keep vs=L0 at h hr2
 unfold Ml at h
 cases hfn:Gw (dh L0 f) with
 |none=>rw [hfn] at h;exact h.elim
 |some q=>
 obtain ⟨gf,caps⟩:=q
 rw [hfn] at h
 simp only at h
 unfold Ky at h
 cases hib:Br P gf with
 |none=>rw [hib] at h;exact h.elim
 |some q=>
 obtain ⟨nt',code⟩:=q
 rw [hib] at h
 obtain ⟨hle,h⟩:=h
 have hle:=Nat.le_of_ble_eq_true hle
 obtain ⟨fn,hf1,hf2,hf3,hf4,hf5,rfl⟩:=ajc hib
 obtain ⟨vb,hev,hcaps⟩:=afi hfn (hr2.eval f)
 refine wpIn_rangeFunc fun fno hfno=>?_
 obtain ⟨rec,hrec⟩:∃ rec:ub,rec = { fn:=fno,tmps:=a.tmps,params:=ps,assign:=asg,body:=body,defers:=w.heap.size }:=⟨_,rfl⟩
 obtain ⟨W1,hW1⟩:∃ W1,(w.alloc (.deferred (some []))).alloc (.loop (rec.at none))=W1:=⟨_,rfl⟩
 have hsz:W1.heap.size=w.heap.size+2:=by rw [← hW1];simp
 have hold:∀ b,b<w.heap.size→W1.heap[b]? = w.heap[b]? := fun b hb=>by
  rw [← hW1,RowKit.Below.heap_alloc _ _ _ (by simp;omega)];exact RowKit.Below.heap_alloc w _ _ hb
 have hL1:W1.heap[w.heap.size+1]? = some (.loop (rec.at none)):=by
  rw [← hW1];have:=World.alloc_heap_new (w.alloc (.deferred (some []))) (.loop (rec.at none));rwa [World.size_alloc] at this
 have hD1:W1.heap[w.heap.size]? = some (.deferred (some [])):=by
  rw [← hW1];exact (RowKit.Below.heap_alloc _ _ _ (by simp)).trans (World.alloc_heap_new w _)
 have hgrow:=ank (w':=W1) (bf os).nx (bf os).nx hc2.ok (by omega) hold (by rw [← hW1];rfl) (by rw [← hW1];rfl) (by rw [← hW1];rfl)
 have hcW:js B g2 (bf os) W1:=hc2.step (hnf.qh _ _) ⟨Nat.le_refl _,hgrow.1⟩ hgrow.2
 have hrW:=hr2.ext hgrow.1.ext
 have hmW:=cm.step hgrow.1
 have hunew:∀ b,w.heap.size≤b→ir g2 (bf os).h b:=fun b hb o base ho hi=>by
  obtain ⟨x,hx⟩:=Option.isSome_iff_exists.1 ho
  obtain ⟨c,base',q1,_,q3⟩:=hc2.ok.obj o x hx
  rw [hi] at q1;cases q1
  have:=q3.lt
  omega
 have hB1:=hcW.Pk os.length (· = w.heap.size+1) hn2 (far:=fun _=>False) (fun o h=>(hnf o h).elim)
 have hlen:(#[Value.func (.yield (w.heap.size+1)) #[] #[]]++vb).size≤fn.ntmps:=by
  have:=hcaps.1
  simp at this ⊢
  omega
 refine ⟨w.heap.size+1,[mark w.heap.size],W1,{ target:=.fn (.func gf) vb,args:=#[.func (.yield (w.heap.size+1)) #[] #[]] },W1,gf,#[.func (.yield (w.heap.size+1)) #[] #[]]++vb,W1,?_,?_,fun _ _=>trivial,?_,(fun h=>(by cases h)),?_⟩
 ·rw [← hW1,hrec];exact run_enterLoop_outer _ _ _ _ _
 ·simp only [resolve,hev]
  simp [go_sem]
 ·simp [invoke,go_sem,oz hf3]
 ·refine callsIn_of_wp_marks hf1 hf2 trivial ?_
  have hR:=aqx hT hm (B1:=ke g2 (bf os).h W1 os.length (· = w.heap.size+1)) (l:=w.heap.size+1) (nt:=nt) (rec:=rec) (L0:=L0) (fun _ h=>h) (by rw [hrec];simpa [Array.all_toList] using hs1) (by rw [hrec];exact hs2) (by rw [hrec];exact hs3) (by rw [hrec];exact hs4) (by rw [hrec];exact hs5)
   (fun g' h' w' hb=>by rw [hrec];exact hrW.ext (hb.abf (fun o h _=>hn3 o h)))
  have hR':Zx P (w.heap.size+1) rec (nb ps.toList (fun p=>wl P T p asg) (fun p=>wl P T p body) L0) (ke g2 (bf os).h W1 os.length (· = w.heap.size+1)):=by rw [hrec] at hR ⊢;exact hR
  have hrel:ig g2 W1 fn.ntmps (bp 0 (.sc (.func (.yield (w.heap.size+1)) #[] #[])::caps)) ((#[Value.func (.yield (w.heap.size+1)) #[] #[]]++vb)++Array.replicate (fn.ntmps - (#[Value.func (.yield (w.heap.size+1)) #[] #[]]++vb).size) undef):=by
   have hrl:bm g2 W1 (.sc (.func (.yield (w.heap.size+1)) #[] #[])::caps) (.func (.yield (w.heap.size+1)) #[] #[]::vb.toList):=bm.cons (.sc _) (hcaps.ext hgrow.1.ext)
   have:=zg (nt:=fn.ntmps) hrl (by simpa using hle)
   have e:(Value.func (.yield (w.heap.size+1)) #[] #[]::vb.toList).toArray = #[Value.func (.yield (w.heap.size+1)) #[] #[]]++vb:=by apply Array.ext';simp
   rw [e] at this
   exact this
  have hw:=ayi hT hm (N:=N - 1) (B:=ke g2 (bf os).h W1 os.length (· = w.heap.size+1)) (fun _ h=>h) hp1 hR' (.inl rfl) code hf4 _ none _ (bf os) g2 W1 { tmps:=(#[Value.func (.yield (w.heap.size+1)) #[] #[]]++vb)++Array.replicate (fn.ntmps - (#[Value.func (.yield (w.heap.size+1)) #[] #[]]++vb).size) undef,defers:=[] } (h _) hB1 hrel rfl hL1 (hunew _ (by omega))
  refine wpIn_mono hw ?_
  rintro ex a' w' ⟨e,pe,L',st',g',rfl,hq,hc',hr',hd',hl',hu'⟩
  have fin:ab5 Q L0 .normal pe L' st'→bodyPostM (eh none) (N - 1) P fn (rangePost (eh none) N P (w.heap.size+1) (Fin B nt Q) { a with defers:=[mark w.heap.size]++a.defers }) .ret a' w':=by
   intro hq
   show LeavesInM (eh none) (N - 1) P fn a'.tmps _ a'.defers .returning w'
   rw [hd']
   have hres:(results fn a'.tmps).run P w' = .ok (.tuple #[]) w':=by simp [results,hf5]
   refine ⟨_,hres,?_⟩
   have hend:=run_endLoop (P:=P) hl' (by cases pe<;>simp [ub.at])
   refine ⟨_,_,hend,?_⟩
   have hput:=xk (r':={ rec.at pe with state:=.exhausted }) hc' hl' hu' (.inl rfl)
   have hb:=hput.1.base
   have hcB:js B g' st' (gp w' (w.heap.size+1) (.loop { rec.at pe with state:=.exhausted })):=⟨hput.1.ok,fun o h1 _=>hput.1.fresh o h1 (fun h=>h),hcW.base.comp hb hn1 (fun o h=>(hnf o h).elim) (fun n hn=>by subst hn;have:=hc.base.size;exact .inl (by omega)),Nat.le_trans hn1 hput.1.az⟩
   have hrB:=hrW.ext (hb.abf (fun o h _=>hn3 o h))
   have hmB:Marks B.D B.n0 st'.h g' (gp w' (w.heap.size+1) (.loop { rec.at pe with state:=.exhausted })) ([mark w.heap.size]++a.defers):=by
    have hm2:Marks B.D B.n0 (bf os).h g2 W1 ([mark w.heap.size]++a.defers):=by
     obtain ⟨bs,e1,e2,e3⟩:=hmW
     obtain ⟨bs0,e10,e20,e30⟩:=cm
     have hbs:bs=bs0:=by
      have:bs.map mark=bs0.map mark:=List.append_cancel_right (e1.symm.trans e10)
      exact (List.map_inj_right (fun x y e=>by simpa [mark] using e)).1 this
     subst hbs
     refine ⟨w.heap.size::bs,by simp [e1],List.nodup_cons.2 ⟨fun hmem=>?_,e2⟩,fun b hb=>?_⟩
     ·have:=br (e30 _ hmem).2.1;omega
     ·rcases List.mem_cons.1 hb with rfl|hb
      ·have:=hc.base.size
       exact ⟨by omega,hD1,hunew _ (Nat.le_refl _)⟩
      ·exact e3 b hb
    exact Marks.base hb hm2 (fun b hbl=>by subst hbl;exact ⟨_,hL1⟩)
   cases pe with
   |none=>exact Fin.mk' (e:=.normal) hq hcB hrB hmB
   |some e=>
    show (aob e).wpIn (eh none) N P (Fin B nt Q) _ _
    cases e with
    |normal=>exact wpIn_skip (Fin.mk' (e:=.normal) hq hcB hrB hmB)
    |ret=>exact wpIn_ret (Fin.mk' (e:=.ret) hq hcB hrB hmB)
    |exit id=>exact wpIn_exit (Fin.mk' (e:=.exit id) hq hcB hrB hmB)
  cases e with
  |normal=>exact fin hq
  |ret=>exact fin hq
  |exit id=>exact hq.elim
theorem alo {P:Program} [KP P] {T:dv} (hT:an P T) (hm:P.follows .mixedOrders=true) {N:Nat} {B:dy} {nt:NT} (hnf:B.j5) (hp:B.az≤1000) (hn0:B.n0≤B.w.heap.size) (c:Code) (hs:dt nt c=true):P2 P none N B nt c (wl P T B.az c):=
 ao1 hT hm hnf hp true (fun _ f ps asg body h=>arx hT hm hnf hp hn0 f ps asg body h) c hs (.inl rfl)
theorem Bp {P:Program} [KP P] {F:Fence} {n:Nat} {fn:Func} {tmps:Array Value} {R:Ending→World→Prop} (Good:World→Prop) (S:Nat→Prop) (hput:∀ w b,Good w→S b→w.heap[b]? = some (.deferred (some []))→Good (gp w b (.deferred none)))
 (hres:∀ w,Good w→∃ v,(results fn tmps).run P w = .ok v w∧R (.returned v) w) :
 ∀ (bs:List Nat) (w:World),Good w→bs.Nodup→(∀ b ∈ bs,S b∧w.heap[b]? = some (.deferred (some [])))→LeavesInM F n P fn tmps R (bs.map mark) .returning w:=by
 intro bs
 induction bs with
 |nil=>intro w hg _ _;exact hres w hg
 |cons b bs ih=>
  intro w hg hnd hall
  obtain ⟨q1,q2⟩:=hall b (by simp)
  rw [List.nodup_cons] at hnd
  refine ⟨by simp,.inl ⟨b,gp w b (.deferred none),rfl,?_,?_⟩⟩
  ·simp [Instr.takeDeferred,Sem.run_bind,getObj,setObj,Sem.run,q2,Result.andThen,gp]
  ·refine ih _ (hput w b hg q1 q2) hnd.2 (fun c hc=>?_)
   obtain ⟨p1,p2⟩:=hall c (by simp [hc])
   exact ⟨p1,(ec w _ (fun e=>hnd.1 (by rw [← e];exact hc))).trans p2⟩
end
end Go.Vm
namespace Go.Vm
variable [TK]
def gK (b0:Nat) (K:Nat→Nat→Prop):Gh:={ b0,inj:=fun _=>none,K }
structure uq (g:Gh) (h:Tr bh) (K':Nat→Nat→Prop):Prop where
 K:∀ b j,g.K b j→K' b j
 rows:∀ o cells k s e,h.get o=some (.row cells k s e)→∀ b base,g.inj o=some (b,base)→∀ j,s=0∨j<cells.length→K' b (base+j)
theorem uq.nil (g:Gh) (K:Nat→Nat→Prop) (h:∀ b j,g.K b j→K b j):uq g .nil K:=⟨h,fun o cells k s e ho=>by rw [Tr.get_nil] at ho;cases ho⟩
structure Plain (c:AV):Prop where
 dm:∀ τ,c.dm τ=c
 names:c.names=[]
 one:c.one=true
 known:c.known=true
structure c8 (α:Type) where
 sz:Nat
 agg:Bool
 cells:Bool → α→List AV
 dec:Bool→Tr bh→List AV→Option α
 len:∀ l x,(cells l x).length=sz
 rt:∀ fr h l x,(fr=true→l=true)→dec fr h (cells l x)=some x
 one:agg=false→∀ l x,∃ c,cells l x=[c]∧c.cells=[c]∧c.known=true
 pl:∀ l x,∀ c ∈ cells l x,Plain c
 fr:∀ x,∀ c ∈ cells true x,c.fresh=true
 kd:LK
 Iy:sz=1→∀ {g w l x c v},c ∈ cells l x→Rel g w c v→sv v=kd
 ok:∀ {fr g h w K b0 l vs x},Ok g h w→uq g h K→(fr=true→b0≤g.b0)→bm g w l vs→dec fr h l=some x→bm (gK b0 K) w (cells fr x) vs
def c8.val {α:Type} (C:c8 α) (l:Bool) (x : α):AV:=bif C.agg then .agg (C.cells l x) else (C.cells l x).headD .bad
def AV.isAgg:AV→Bool
 |.agg _=>true
 |.sc v=>match v with|.agg _=>true|_=>false
 |_=>false
noncomputable def c8.gy {α:Type} (C:c8 α) (fr:Bool) (h:Tr bh) (a:AV):Option α:=bif a.known && (a.isAgg == C.agg) then C.dec fr h a.cells else none
theorem c8.Co {α:Type} (C:c8 α) (l:Bool) (x : α):(C.val l x).cells=C.cells l x:=by
 unfold c8.val
 cases h:C.agg with
 |true=>rfl
 |false=>
  obtain ⟨c,h1,h2,_⟩:=C.one h l x
  rw [cond_false,h1]
  exact h2
theorem Sh {c:AV} (h:c.cells=[c]):c.isAgg=false:=by
 cases c with
 |agg l=>
  simp only [AV.cells] at h
  have:=congrArg (SizeOf.sizeOf:List AV→Nat) h
  simp at this
  omega
 |sc v=>
  cases v with
  |agg vs=>
   obtain ⟨l⟩:=vs
   simp only [AV.cells,Value.cells] at h
   match l,h with
   | [x],h=>
    simp only [List.map_cons,List.map_nil,List.cons.injEq,and_true,AV.sc.injEq] at h
    have:=congrArg (SizeOf.sizeOf:Value→Nat) h
    simp at this
    omega
   | [],h=>simp at h
   |_::_::_,h=>simp at h
  |_=>rfl
 |_=>rfl
theorem aoc {α:Type} (C:c8 α) (l:Bool) (x : α):(C.val l x).isAgg=C.agg:=by
 unfold c8.val
 cases h:C.agg with
 |true=>rfl
 |false=>
  obtain ⟨c,h1,h2,_⟩:=C.one h l x
  rw [cond_false,h1]
  exact Sh h2
theorem bm.split {g w l l' vs} (h:bm g w (l++l') vs):∃ u u',vs=u++u'∧bm g w l u∧bm g w l' u':=by
 have h1:=h.take l.length
 have h2:=h.drop l.length
 rw [List.take_left] at h1
 rw [List.drop_left] at h2
 exact ⟨_,_,(List.take_append_drop l.length vs).symm,h1,h2⟩
theorem Mg {α:Type} (C:c8 α) (l:Bool) (x : α):(C.val l x).known=true:=by
 unfold c8.val
 cases h:C.agg with
 |true=>rfl
 |false=>
  obtain ⟨c,h1,_,h2⟩:=C.one h l x
  rw [cond_false,h1]
  exact h2
theorem c8.Ln {α:Type} (C:c8 α) (fr:Bool) (h:Tr bh) (l:Bool) (x : α) (hl:fr=true→l=true):C.gy fr h (C.val l x)=some x:=by
 unfold c8.gy;rw [Mg,aoc,C.Co,C.rt _ _ _ _ hl];simp
theorem aa6 {α:Type} (C:c8 α) {fr:Bool} {h:Tr bh} {a:AV} {x : α} (hd:C.gy fr h a=some x):a.known=true∧a.isAgg=C.agg∧C.dec fr h a.cells=some x:=by
 unfold c8.gy at hd
 cases hk:(a.known && (a.isAgg == C.agg)) with
 |false=>rw [hk] at hd;cases hd
 |true=>rw [hk] at hd;simp at hk;exact ⟨hk.1,hk.2,hd⟩
theorem c8.Tp {α:Type} (C:c8 α) {fr g h w K b0 a v x} (hok:Ok g h w) (hl:uq g h K) (hb:fr=true→b0≤g.b0) (hr:Rel g w a v) (hd:C.gy fr h a=some x):Rel (gK b0 K) w (C.val fr x) v:=by
 obtain ⟨h1,h2,h3⟩:=aa6 C hd
 have hc:=hr.cells h1
 have hx:=C.ok (b0:=b0) hok hl hb hc h3
 unfold c8.val
 cases hg:C.agg with
 |true=>
  rw [hg] at h2
  have:∃ vs,v = .agg vs:=by
   cases hr with
   |agg l vs=>exact ⟨vs,rfl⟩
   |sc v=>cases v<;>first|exact ⟨_,rfl⟩|cases h2
   |_=>cases h2
  obtain ⟨vs,rfl⟩:=this
  exact .agg _ vs (by simpa [Value.cells] using hx.1) (fun i a v ha hv=>hx.2 i a v ha (by simpa [Value.cells] using hv))
 |false=>
  obtain ⟨c,h4,_⟩:=C.one hg fr x
  rw [cond_false,h4]
  rw [h4] at hx
  have hv:v.cells.toList=[v]:=by
   rw [hg] at h2
   have h5:=hx.1
   cases hr with
   |agg=>cases h2
   |sc v=>cases v<;>first|rfl|cases h2
   |bad=>cases h1
   |_=>rfl
  rw [hv] at hx
  exact hx.head
theorem Gb {l:List AV} (h:∀ c ∈ l,c.names=[]):AV.names.go l=[]:=by
 induction l with
 |nil=>rfl
 |cons a l ih=>simp [AV.names.go,h a (by simp),ih (fun c hc=>h c (by simp [hc]))]
theorem Km {l:List AV} (h:∀ c ∈ l,c.fresh=true):AV.fresh.go l=true:=by
 induction l with
 |nil=>rfl
 |cons a l ih=>simp [AV.fresh.go,h a (by simp),ih (fun c hc=>h c (by simp [hc]))]
theorem Qi {τ:Nat→Option Nat} {l:List AV} (h:∀ c ∈ l,c.dm τ=c):AV.dm.go τ l=l:=by
 induction l with
 |nil=>rfl
 |cons a l ih=>simp [AV.dm.go,h a (by simp),ih (fun c hc=>h c (by simp [hc]))]
theorem Mn {α:Type} (C:c8 α) (l:Bool) (x : α):(C.agg=true∧C.val l x = .agg (C.cells l x))∨(C.agg=false∧C.val l x ∈ C.cells l x):=by
 cases h:C.agg with
 |true=>exact .inl ⟨rfl,by simp [c8.val,h]⟩
 |false=>
  obtain ⟨c,h1,_⟩:=C.one h l x
  refine .inr ⟨rfl,?_⟩
  simp [c8.val,h,h1]
theorem Nm {α:Type} (C:c8 α) (τ:Nat→Option Nat) (l:Bool) (x : α):(C.val l x).dm τ=C.val l x:=by
 rcases Mn C l x with ⟨_,h⟩|⟨_,h⟩
 ·rw [h,AV.dm,Qi (fun c hc=>(C.pl l x c hc).dm τ)]
 ·exact (C.pl l x _ h).dm τ
theorem Lv {α:Type} (C:c8 α) (l:Bool) (x : α):(C.val l x).names=[]:=by
 rcases Mn C l x with ⟨_,h⟩|⟨_,h⟩
 ·rw [h,AV.names];exact Gb (fun c hc=>(C.pl l x c hc).names)
 ·exact (C.pl l x _ h).names
theorem aor {α:Type} (C:c8 α) (x : α):(C.val true x).fresh=true:=by
 rcases Mn C true x with ⟨_,h⟩|⟨_,h⟩
 ·rw [h,AV.fresh];exact Km (fun c hc=>C.fr x c hc)
 ·exact C.fr x _ h
noncomputable def yq {α:Type} (C:c8 α) (fr:Bool) (h:Tr bh):List AV→Option (List α)
 | []=>some []
 |a::r=>match C.gy fr h a,yq C fr h r with
  |some x,some xs=>some (x::xs)
  |_,_=>none
noncomputable def v8 {α:Type} (C:c8 α) (fr:Bool) (h:Tr bh):Nat→List AV→Option (List α)
 |0,_=>some []
 |n+1,l=>match C.dec fr h (l.take C.sz),v8 C fr h n (l.drop C.sz) with
  |some x,some xs=>some (x::xs)
  |_,_=>none
theorem Tq {α:Type} (C:c8 α) (fr:Bool) (h:Tr bh) (l:Bool) (hl:fr=true→l=true):∀ xs:List α,yq C fr h (xs.map (C.val l))=some xs
 | []=>rfl
 |x::xs=>by simp only [List.map_cons,yq,C.Ln fr h l x hl,Tq C fr h l hl xs]
theorem Wx {α:Type} (C:c8 α) (fr:Bool) (h:Tr bh) (l:Bool) (hl:fr=true→l=true):∀ xs:List α,v8 C fr h xs.length (xs.flatMap (C.cells l))=some xs
 | []=>rfl
 |x::xs=>by
  have h1:(C.cells l x++xs.flatMap (C.cells l)).take C.sz=C.cells l x:=by rw [← C.len l x,List.take_left]
  have h2:(C.cells l x++xs.flatMap (C.cells l)).drop C.sz=xs.flatMap (C.cells l):=by rw [← C.len l x,List.drop_left]
  simp only [List.flatMap_cons,List.length_cons,v8,h1,h2,C.rt fr h l x hl,Wx C fr h l hl xs]
theorem api {α:Type} (C:c8 α) {fr g h w K b0} (hok:Ok g h w) (hl:uq g h K) (hb:fr=true→b0≤g.b0):∀ (es:List AV) (vs:List Value) (xs:List α),bm g w (es.flatMap AV.cells) vs→yq C fr h es=some xs →
 bm (gK b0 K) w (xs.flatMap (C.cells fr)) vs∧xs.length=es.length:=by
 intro es
 induction es with
 |nil=>intro vs xs hr hd;simp [yq] at hd;subst hd;exact ⟨⟨by simpa using hr.1,fun i a v ha=>by simp at ha⟩,rfl⟩
 |cons e es ih=>
  intro vs xs hr hd
  rw [List.flatMap_cons] at hr
  obtain ⟨u,u',rfl,h1,h2⟩:=hr.split
  simp only [yq] at hd
  split at hd
  ·rename_i x xs' hx hxs
   simp at hd;subst hd
   obtain ⟨q1,q2⟩:=ih u' xs' h2 hxs
   exact ⟨by rw [List.flatMap_cons];exact (C.ok hok hl hb h1 (aa6 C hx).2.2).append q1,by simp [q2]⟩
  ·cases hd
theorem avl {α:Type} (C:c8 α) {fr g h w K b0} (hok:Ok g h w) (hl:uq g h K) (hb:fr=true→b0≤g.b0):∀ (n:Nat) (l:List AV) (vs:List Value) (xs:List α),bm g w l vs→l.length=n * C.sz→v8 C fr h n l=some xs →
 bm (gK b0 K) w (xs.flatMap (C.cells fr)) vs∧xs.length=n:=by
 intro n
 induction n with
 |zero=>
  intro l vs xs hr hlen hd
  simp [v8] at hd;subst hd
  have:l=[]:=by apply List.eq_nil_of_length_eq_zero;omega
  subst this
  exact ⟨⟨by simpa using hr.1,fun i a v ha=>by simp at ha⟩,rfl⟩
 |succ n ih=>
  intro l vs xs hr hlen hd
  simp only [v8] at hd
  split at hd
  ·rename_i x xs' hx hxs
   simp at hd;subst hd
   have h1:=hr.take C.sz
   have h2:=hr.drop C.sz
   obtain ⟨q1,q2⟩:=ih _ _ xs' h2 (by rw [List.length_drop,hlen,Nat.succ_mul];omega) hxs
   refine ⟨?_,by simp [q2]⟩
   have:=(C.ok hok hl hb h1 hx).append q1
   rw [List.flatMap_cons,← List.take_append_drop C.sz vs]
   exact this
  ·cases hd
def Kn (sz:Nat) (kd:LK) (et:TypeId):Bool:=(match TK.sz et with|some n=>Nat.beq n sz|none=>false) && (!Nat.beq sz 1 || decide (TK.kd et=kd))
theorem ayx {sz:Nat} {kd:LK} {et:TypeId} (h:Kn sz kd et=true):TK.sz et=some sz∧(sz=1→TK.kd et=kd):=by
 unfold Kn at h
 rw [Bool.and_eq_true] at h
 obtain ⟨h1,h2⟩:=h
 constructor
 ·cases hs:TK.sz et with
  |none=>rw [hs] at h1;cases h1
  |some n=>rw [hs] at h1;rw [Nat.eq_of_beq_eq_true h1]
 ·intro e
  subst e
  simpa using h2
def wv (fr:Bool) (sz:Nat) (kd:LK) (st off len n:Nat) (et:TypeId):Bool:=!fr || (Nat.beq st 0 && (Nat.beq off 0 && Nat.beq (n * sz) len) && Kn sz kd et)
theorem atj {sz:Nat} {kd:LK} {st off len n:Nat} {et:TypeId} (h:wv true sz kd st off len n et=true):st=0∧off=0∧n * sz=len∧TK.sz et=some sz∧(sz=1→TK.kd et=kd):=by
 simp only [wv,Bool.not_true,Bool.false_or,Bool.and_eq_true] at h
 exact ⟨Nat.eq_of_beq_eq_true h.1.1,Nat.eq_of_beq_eq_true h.1.2.1,Nat.eq_of_beq_eq_true h.1.2.2,ayx h.2⟩
noncomputable def mr {α:Type} (C:c8 α) (fr:Bool) (h:Tr bh) (off len:Nat) (x:bh):Option (List α):=
 match x with
 |.row cells _ st et=>bif Nat.ble (off+len * C.sz) cells.length && wv fr C.sz C.kd st off cells.length len et then v8 C fr h len ((cells.drop off).take (len * C.sz)) else none
 |_=>none
noncomputable def gx {α:Type} (C:c8 α) (fr:Bool) (h:Tr bh) (a:AV):Option (List α):=
 match a with
 |.sc v=>match v with
  |.slice none 0 0=>some []
  |_=>none
 |.vl l sz es=>bif Nat.beq sz C.sz && (l || !fr) then yq C fr h es else none
 |.sl o off len sz=>bif Nat.beq sz C.sz then (h.get o).bind (mr C fr h off len) else none
 |_=>none
noncomputable def aur {α:Type} (C:c8 α) (fr:Bool) (h:Tr bh) (l:List AV):Option (List α):=
 match l with
 | [a]=>gx C fr h a
 |_=>none
def jy (off n:Nat) (c:Nat→Value):List Value:=(List.range n).map fun j=>c (off+j)
theorem alv {α:Type} (C:c8 α) {fr b0 K w} {xs:List α} {vs:List Value} {b off cap:Nat} (hr:bm (gK b0 K) w (xs.flatMap (C.cells fr)) vs) (hcap:xs.length≤cap) (hb:fr=true→b0≤b)
 (hc:∀ j v,vs[j]? = some v→K b (off+j)∧w.cell? ⟨b,off+j,none⟩=some v)
 (hw:fr=true→Whole (gK b0 K) w b off cap C.sz xs.length (fun j=>vs.getD j undef)):Rel (gK b0 K) w (.vl fr C.sz (xs.map (C.val fr))) (.slice (some ⟨b,off,none⟩) xs.length cap):=by
 have hfm:(xs.map (C.val fr)).flatMap AV.cells=xs.flatMap (C.cells fr):=by
  rw [List.flatMap_map];congr 1;funext x;exact C.Co fr x
 have:=Rel.vl (g:=gK b0 K) (w:=w) fr C.sz (xs.map (C.val fr)) b off cap (fun j=>vs.getD j undef) (fun e he=>by
  obtain ⟨x,_,rfl⟩:=List.mem_map.1 he;rw [C.Co,C.len]) hb (by simpa using hcap)
  (fun j a ha=>by
   rw [hfm] at ha
   obtain ⟨v,hv,_⟩:=hr.get ha
   have:=hc j v hv
   exact ⟨this.1,by rw [this.2,List.getD_eq_getElem?_getD,hv];rfl⟩)
  (fun j a ha=>by
   rw [hfm] at ha
   obtain ⟨v,hv,hrel⟩:=hr.get ha
   show Rel _ _ a (vs.getD j undef)
   rw [List.getD_eq_getElem?_getD,hv];exact hrel) (fun e=>by rw [List.length_map];exact hw e)
 simpa using this
theorem av3 {α:Type} (C:c8 α) {fr g h w K b0 a v xs} (hok:Ok g h w) (hl:uq g h K) (hb0:fr=true→b0≤g.b0) (hr:Rel g w a v) (hd:gx C fr h a=some xs):Rel (gK b0 K) w (.vl fr C.sz (xs.map (C.val fr))) v:=by
 cases hr with
 |sc v=>
  simp only [gx] at hd
  split at hd
  ·simp at hd;subst hd;exact .kf _ _
  ·cases hd
 |kf loc sz=>
  simp only [gx] at hd
  cases hb:(Nat.beq sz C.sz && (loc || !fr)) with
  |false=>rw [hb] at hd;cases hd
  |true=>rw [hb] at hd;simp [yq] at hd;subst hd;exact .kf _ _
 |sk loc sz a=>
  simp only [gx] at hd
  cases hb:(Nat.beq sz C.sz && (loc || !fr)) with
  |false=>rw [hb] at hd;cases hd
  |true=>rw [hb] at hd;simp [yq] at hd;subst hd;exact .sk _ _ a
 |vl loc sz es b off cap c hsz hloc hcap hc hrel hwh=>
  simp only [gx] at hd
  cases hb:(Nat.beq sz C.sz && (loc || !fr)) with
  |false=>rw [hb] at hd;cases hd
  |true=>
   rw [hb,cond_true] at hd
   have hloc':fr=true→b0≤b:=fun e=>by
    rw [e] at hb
    simp at hb
    have:=hloc hb.2
    have:=hb0 e
    omega
   have hlist:bm g w (es.flatMap AV.cells) (jy 0 (es.flatMap AV.cells).length c):=by
    refine ⟨by simp [jy],fun i a v ha hv=>?_⟩
    have hi:=(List.getElem?_eq_some_iff.1 ha).1
    simp only [jy,List.getElem?_map,List.getElem?_range hi,Option.map_some,Option.some.injEq,Nat.zero_add] at hv
    subst hv
    exact hrel i a ha
   obtain ⟨q1,q2⟩:=api C (b0:=b0) hok hl hb0 es _ xs hlist hd
   rw [← q2]
   refine alv C q1 (by omega) hloc' (fun j v hv=>?_) ?_
   have hj:j<(es.flatMap AV.cells).length:=by
    have:=(List.getElem?_eq_some_iff.1 hv).1;simpa [jy] using this
   simp only [jy,List.getElem?_map,List.getElem?_range hj,Option.map_some,Option.some.injEq,Nat.zero_add] at hv
   subst hv
   have:=hc j _ (List.getElem?_eq_getElem hj)
   exact ⟨hl.K _ _ this.1,this.2⟩
   intro e
   rw [e] at hb
   simp at hb
   obtain ⟨w1,⟨cs,et,w2,w3,w4,w5,w6⟩,w7,w8⟩:=hwh hb.2
   have hsz':sz=C.sz:=Nat.eq_of_beq_eq_true (by simpa using hb.1)
   rw [← hsz']
   refine ⟨fun j=>hl.K _ _ (w1 j),⟨cs,et,w2,w3,w4,w5,fun e1 j x hj hx=>?_⟩,fun e1 e2=>w7 e1 (by omega),w8⟩
   have hn : 0<es.length:=by
    rcases Nat.eq_zero_or_pos es.length with h0|h0
    ·have:=w7 e1 h0;omega
    ·exact h0
   have hfl:=Gr es hsz
   have h0:(jy 0 (es.flatMap AV.cells).length c).getD 0 undef=c 0:=by
    rw [List.getD_eq_getElem?_getD,jy,List.getElem?_map,List.getElem?_range (by rw [hfl,e1];omega)];rfl
   simp only [h0]
   exact (w6 e1 j x hj hx).imp id (fun q=>⟨q.1,fun h=>q.2 (by omega)⟩)
 |sl o off len sz b base cap hi hcap hm hroom=>
  simp only [gx] at hd
  cases hb:Nat.beq sz C.sz with
  |false=>rw [hb] at hd;cases hd
  |true=>
   rw [hb,cond_true,Option.bind_eq_some_iff] at hd
   obtain ⟨x,hx,hd⟩:=hd
   obtain ⟨b',base',hi',hbb,hrow⟩:=hok.obj o x hx
   rw [hi] at hi';cases hi'
   cases x with
   |map es=>cases hd
   |loop=>cases hd
   |row cells k st et=>
    simp only [mr] at hd
    cases hle0:(Nat.ble (off+len * C.sz) cells.length && wv fr C.sz C.kd st off cells.length len et) with
    |false=>rw [hle0] at hd;cases hd
    |true=>
     rw [hle0,cond_true] at hd
     rw [Bool.and_eq_true] at hle0
     obtain ⟨hle,hro⟩:=hle0
     have hle':=Nat.le_of_ble_eq_true hle
     obtain ⟨cs,fz,r1,r2,r3,r4,r5,r6,r7,r8⟩:=hrow
     have hpart:bm g w ((cells.drop off).take (len * C.sz)) (jy (base+off) (len * C.sz) (fun j=>cs.getD j undef)):=by
      refine ⟨by simp [jy];omega,fun i a v ha hv=>?_⟩
      rw [List.getElem?_take,List.getElem?_drop] at ha
      by_cases hil:i<len * C.sz
      ·rw [if_pos hil] at ha
       obtain ⟨u,hu,hrel⟩:=r3 _ a ha
       simp only [jy,List.getElem?_map,List.getElem?_range hil,Option.map_some,Option.some.injEq] at hv
       subst hv
       rw [Array.getD_eq_getD_getElem?,Nat.add_assoc,hu]
       exact hrel
      ·rw [if_neg hil] at ha;cases ha
     obtain ⟨q1,q2⟩:=avl C (b0:=b0) hok hl hb0 len _ _ xs hpart (by simp;omega) hd
     subst q2
     refine alv C q1 hcap (fun e=>by have:=hb0 e;omega) (fun j v hv=>?_) ?_
     have hj:j<xs.length * C.sz:=by
      have:=(List.getElem?_eq_some_iff.1 hv).1;simpa [jy] using this
     simp only [jy,List.getElem?_map,List.getElem?_range hj,Option.map_some,Option.some.injEq] at hv
     obtain ⟨u,hu,_⟩:=r3 (off+j) (cells[off+j]'(by omega)) (by simp)
     have hrows:=hl.rows o cells k st et hx b base hi (off+j) (.inr (by omega))
     rw [← Nat.add_assoc] at hrows hu
     refine ⟨hrows,?_⟩
     rw [ku r1,hu,← hv,Array.getD_eq_getD_getElem?,hu]
     rfl
     intro e
     subst e
     obtain ⟨s1,s2,s3,s4,s5⟩:=atj hro
     subst s1 s2
     obtain ⟨p1,p2,p3⟩:=r8 rfl
     subst p1
     have hszb:sz=C.sz:=Nat.eq_of_beq_eq_true hb
     obtain ⟨cs1,e1,fr1,t1,t2⟩:=hroom
     rw [r1] at t1;cases t1
     have hf:=r6 (by decide)
     subst hf
     refine ⟨fun j=>by have:=hl.rows o cells k 0 et hx b 0 hi j (.inl rfl);rw [Nat.zero_add] at this;exact this,⟨cs,et,r1,by rw [← hszb];exact t2,s4,by simp,fun e1 j x hj hxj=>?_⟩,fun e1 e2=>?_,hm⟩
     ·have hn : 0<xs.length:=by
       rcases Nat.eq_zero_or_pos xs.length with h0|h0
       ·have:=p2 (by rw [← s3,h0,Nat.zero_mul])
        rw [this,hszb,e1] at t2;omega
       ·exact h0
      have hk:∀ (j:Nat) v,j<xs.length→cs[j]? = some v→sv v=C.kd:=fun j v hj hv=>by
       have hv':(jy (0+0) (xs.length * C.sz) (fun j=>cs.getD j undef))[j]? = some v:=by
        rw [jy,List.getElem?_map,List.getElem?_range (by rw [e1];omega)]
        simp [Array.getD_eq_getD_getElem?,hv]
       have hjl:j<(xs.flatMap (C.cells true)).length:=by rw [← q1.1];exact (List.getElem?_eq_some_iff.1 hv').1
       have hc:=List.getElem?_eq_getElem hjl
       obtain ⟨x,_,hxc⟩:=List.mem_flatMap.1 (List.getElem_mem hjl)
       exact C.Iy e1 hxc (q1.2 j _ v hc hv')
      have h0:cs[0]? = some (cs.getD 0 undef):=by
       have : 0<cs.size:=by rw [hszb,e1] at t2;omega
       rw [Array.getD_eq_getD_getElem?,Array.getElem?_eq_getElem this];rfl
      have h1:(jy (0+0) (xs.length * C.sz) (fun j=>cs.getD j undef)).getD 0 undef=cs.getD 0 undef:=by
       rw [List.getD_eq_getElem?_getD,jy,List.getElem?_map,List.getElem?_range (by rw [e1];omega)];rfl
      simp only [h1]
      rw [hk 0 _ hn h0]
      simp only [Nat.zero_add] at hxj
      by_cases hjn:j<xs.length
      ·exact .inr ⟨hk j x hjn hxj,fun hle=>by omega⟩
      ·rw [← s5 e1]
       exact (p3 j x (by rw [← s3,e1];omega) hxj).imp id (fun q=>⟨q.1,fun _=>q.2⟩)
     ·have:=p2 (by rw [← s3,e2,Nat.zero_mul])
      rw [this,hszb,e1] at t2;omega
 |sx o off sz a=>
  simp only [gx] at hd
  cases hb:Nat.beq sz C.sz with
  |false=>rw [hb] at hd;cases hd
  |true=>
   rw [hb,cond_true,Option.bind_eq_some_iff] at hd
   obtain ⟨x,hx,hd⟩:=hd
   have hxs:xs=[]:=by
    cases x with
    |row cells k st et=>
     simp only [mr] at hd
     cases hle:(Nat.ble (off+0 * C.sz) cells.length && wv fr C.sz C.kd _ off cells.length 0 _) with
     |false=>rw [hle] at hd;cases hd
     |true=>rw [hle] at hd;simp [v8] at hd;exact hd
    |_=>cases hd
   subst hxs
   exact .sk _ _ a
 |tu o off sz=>
  simp only [gx] at hd
  cases hb:Nat.beq sz C.sz with
  |false=>rw [hb] at hd;cases hd
  |true=>
   rw [hb,cond_true,Option.bind_eq_some_iff] at hd
   obtain ⟨x,hx,hd⟩:=hd
   have hxs:xs=[]:=by
    cases x with
    |row cells k st et=>
     simp only [mr] at hd
     cases hle:(Nat.ble (off+0 * C.sz) cells.length && wv fr C.sz C.kd _ off cells.length 0 _) with
     |false=>rw [hle] at hd;cases hd
     |true=>rw [hle] at hd;simp [v8] at hd;exact hd
    |_=>cases hd
   subst hxs
   exact .kf _ _
 |_=>cases hd
end Go.Vm
