/- A piece of the proof. Proved: where the arguments are together of bulk at most 1048576, the law ZoneTells returns true (what is at a name, what beyond a cut), and what it was given reads afterwards as it did before. No other conditions. -/
import Derived.WalkKit
import Derived.CallsIn
import Derived.RangeFuncIn
import Derived.RangeFuncLeaves
import Derived.Orders
import Derived.OrdersIn
import Derived.Scope
import Derived.RangeFuncOwn
import Derived.Stop.SameAnswer
import Derived.Laws.Externs
import Derived.Lib.Bytealg
import Derived.ProofKit
import Derived.OpenShut
import Derived.ReadAgain
import Derived.Deep.Slices
import Derived.ChangeSame
import Derived.Test.YtgencolcibpcaaaGreatProg
import Derived.KernelRfl
import Derived.Test.YtgencolcibpcaaaGreatRows
import Derived.Maps.RangeRun
import Derived.JoinedCond
import Derived.Test.YtgencolcibpcaaaGreatL0
set_option linter.unusedSimpArgs false
set_option linter.unusedVariables false
set_option linter.unusedSectionVars false
namespace Go.Vm
variable [TK]
theorem aut {α β:Type} {P:Program}:∀ (s:Sem α) (f : α→Sem β),ev P (s.bind f)=(ev P s).bind fun a=>ev P (f a):=by
 intro s f
 induction s with
 |pure a=>simp [Sem.bind,ev]
 |program k ih=>simp only [Sem.bind,ev];exact ih P
 |choose q k ih=>
  simp only [Sem.bind,ev]
  split
  ·exact ih 0
  ·rfl
 |mark m k ih=>simp only [Sem.bind,ev];exact ih
 |_=>simp [Sem.bind,ev]
theorem uf {α β:Type} {P:Program} (s:Sem α) (f : α→Sem β):ev P (s >>= f)=(ev P s).bind fun a=>ev P (f a):=aut s f
theorem Cs {α:Type} {P:Program} (a : α):ev P (pure a:Sem α)=some a:=rfl
theorem adl (kind:TypeDesc) (k:Value):∀ (l1 l2:List MapEntry) (i:Nat),l1.map (·.key)=l2.map (·.key) →
 ∀ r,Instr.findNow kind k l1 i=some r→(r=none∧Instr.findNow kind k l2 i=some none)∨∃ j v m,r=some (i+j,v)∧l2[j]? = some m∧Instr.findNow kind k l2 i=some (some (i+j,m.val)):=by
 intro l1
 induction l1 with
 |nil=>
  intro l2 i hk r h
  cases l2 with
  |cons=>simp at hk
  |nil=>simp [Instr.findNow] at h ⊢;exact h.symm
 |cons e l1 ih=>
  intro l2 i hk r h
  cases l2 with
  |nil=>simp at hk
  |cons e2 l2=>
  simp only [List.map_cons,List.cons.injEq] at hk
  obtain ⟨hk1,hk2⟩:=hk
  simp only [Instr.findNow] at h ⊢
  rw [← hk1]
  cases hs:Instr.sameNow kind k e.key with
  |none=>simp [hs] at h
  |some q=>
  cases q with
  |true=>
   simp [hs] at h
   subst h
   exact .inr ⟨0,e.val,e2,rfl,rfl,rfl⟩
  |false=>
   simp only [hs] at h
   rcases ih l2 (i+1) hk2 r h with ⟨h1,h2⟩|⟨j,v,m,h1,h2,h3⟩
   ·exact .inl ⟨h1,h2⟩
   ·exact .inr ⟨j+1,v,m,by rw [h1];congr 2;omega,by simpa using h2,by rw [show i+(j+1)=i+1+j from by omega];exact h3⟩
theorem Sg {P:Program} (kt:TypeId) (k:Value) (w:World):∀ (l1 l2:List MapEntry) (i:Nat),l1.map (·.key)=l2.map (·.key) →
 ∀ r,ev P (Instr.findAsking kt k l1 i)=some r→(r=none∧(Instr.findAsking kt k l2 i).run P w = .ok none w)∨∃ j v m,r=some (i+j,v)∧l2[j]? = some m∧(Instr.findAsking kt k l2 i).run P w = .ok (some (i+j,m.val)) w:=by
 intro l1
 induction l1 with
 |nil=>
  intro l2 i hk r h
  cases l2 with
  |cons=>simp at hk
  |nil=>simp [Instr.findAsking,Cs] at h ⊢;exact h.symm
 |cons e l1 ih=>
  intro l2 i hk r h
  cases l2 with
  |nil=>simp at hk
  |cons e2 l2=>
  simp only [List.map_cons,List.cons.injEq] at hk
  obtain ⟨hk1,hk2⟩:=hk
  simp only [Instr.findAsking,uf] at h ⊢
  cases hq:ev P (Op.equal kt k e.key) with
  |none=>simp [hq] at h
  |some q=>
  have hrun:=Au _ _ w hq
  rw [hk1] at hrun
  rw [hq] at h
  cases q with
  |true=>
   simp [Cs] at h
   subst h
   exact .inr ⟨0,e.val,e2,rfl,rfl,by simp [hrun]⟩
  |false=>
   simp at h
   rcases ih l2 (i+1) hk2 r h with ⟨h1,h2⟩|⟨j,v,m,h1,h2,h3⟩
   ·exact .inl ⟨h1,by simp [hrun,h2]⟩
   ·exact .inr ⟨j+1,v,m,by rw [h1];congr 2;omega,by simpa using h2,by rw [show i+(j+1)=i+1+j from by omega];simp [hrun,h3]⟩
theorem Xw {P:Program} {t:TypeId} {d:TypeDesc} (h:ev P (underlying t)=some d):P.underlying t=some d:=by
 have h1:=Au (P:=P) _ _ (default:World) h
 cases hu:P.underlying t with
 |some d'=>rw [run_underlying hu] at h1;cases h1;rfl
 |none=>
  exfalso
  have:∀ w,(underlying t).run P w ≠ .ok d w:=by
   intro w
   simp only [underlying,Sem.run_bind]
   simp [program,Sem.run,hu,stuck]
  exact this _ h1
theorem aeg {P:Program} {g:Gh} {w:World} {kt:TypeId} {k:Value} {es:List (Value × AV)} {ms:Array MapEntry} (hlen:ms.size=es.length)
 (hkv:∀ (i:Nat) e m,es[i]? = some e→ms[i]? = some m→m.key=e.1∧Rel g w e.2 m.val) {r:Option Nat} (h:(ev P (Instr.findKey kt k (ry es))).map (fun r=>r.map (·.1))=some r) :
 (r=none∧(Instr.findKey kt k ms.toList).run P w = .ok none w)∨∃ i e m,r=some i∧es[i]? = some e∧ms[i]? = some m∧(Instr.findKey kt k ms.toList).run P w = .ok (some (i,m.val)) w:=by
 unfold ry at h
 have hkeys:(es.map fun e=>({ key:=e.1,val:=undef,born:=0 }:MapEntry)).map (·.key)=ms.toList.map (·.key):=by
  apply List.ext_getElem?
  intro i
  simp only [List.map_map,List.getElem?_map,Array.getElem?_toList]
  by_cases hi:i<es.length
  ·have e1:=List.getElem?_eq_getElem hi
   have e2:=Array.getElem?_eq_getElem (xs:=ms) (i:=i) (by omega)
   rw [e1,e2]
   simp only [Option.map_some,Function.comp_apply]
   rw [(hkv i _ _ e1 e2).1]
  ·rw [List.getElem?_eq_none (by omega),Array.getElem?_eq_none (by omega)];rfl
 have conv:∀ (j:Nat) (m:MapEntry),ms.toList[j]? = some m→∃ e,es[j]? = some e∧ms[j]? = some m:=by
  intro j m hm
  rw [Array.getElem?_toList] at hm
  have hj:j<es.length:=by rw [← hlen];exact (Array.getElem?_eq_some_iff.1 hm).1
  exact ⟨es[j],List.getElem?_eq_getElem hj,hm⟩
 simp only [Option.map_eq_some_iff] at h
 obtain ⟨r0,h1,rfl⟩:=h
 unfold Instr.findKey at h1
 rw [uf] at h1
 cases hu:ev P (underlying kt) with
 |none=>simp [hu] at h1
 |some d=>
 have hu':=Xw hu
 rw [hu] at h1
 simp only [Option.bind_some] at h1
 cases hf:Instr.findNow d k (es.map fun e=>({ key:=e.1,val:=undef,born:=0 }:MapEntry)) 0 with
 |some r1=>
  rw [hf] at h1
  simp [Cs] at h1
  subst h1
  rcases adl d k _ _ 0 hkeys r1 hf with ⟨rfl,h3⟩|⟨j,v,m,rfl,h3,h4⟩
  ·exact .inl ⟨rfl,by simp [Instr.findKey,run_underlying hu',h3]⟩
  ·obtain ⟨e,e1,e2⟩:=conv j m h3
   exact .inr ⟨j,e,m,by simp,e1,e2,by simp [Instr.findKey,run_underlying hu',h4]⟩
 |none=>
  have hf2:Instr.findNow d k ms.toList 0=none:=by
   have key:∀ (l1 l2:List MapEntry) (i:Nat),l1.map (·.key)=l2.map (·.key)→Instr.findNow d k l1 i=none→Instr.findNow d k l2 i=none:=by
    intro l1
    induction l1 with
    |nil=>intro l2 i hk h;simp [Instr.findNow] at h
    |cons a l1 ih=>
     intro l2 i hk h
     cases l2 with
     |nil=>simp at hk
     |cons b l2=>
     simp only [List.map_cons,List.cons.injEq] at hk
     simp only [Instr.findNow] at h ⊢
     rw [← hk.1]
     cases hs:Instr.sameNow d k a.key with
     |none=>rfl
     |some q=>
      cases q with
      |true=>simp [hs] at h
      |false=>simp only [hs] at h ⊢;exact ih l2 (i+1) hk.2 h
   exact key _ _ 0 hkeys hf
  rw [hf] at h1
  simp only at h1
  rcases Sg kt k w _ _ 0 hkeys r0 h1 with ⟨rfl,h3⟩|⟨j,v,m,rfl,h3,h4⟩
  ·exact .inl ⟨rfl,by simp [Instr.findKey,run_underlying hu',hf2,h3]⟩
  ·obtain ⟨e,e1,e2⟩:=conv j m h3
   exact .inr ⟨j,e,m,by simp,e1,e2,by simp [Instr.findKey,run_underlying hu',hf2,h4]⟩
theorem Aw (d:TypeDesc) (k:Value):∀ (L:List MapEntry) (i:Nat),(∀ m ∈ L,(Instr.sameNow d k m.key).isSome=true) →
 (Instr.findNow d k L i=some none∧∀ m ∈ L,Instr.sameNow d k m.key=some false)∨∃ j m,L[j]? = some m∧Instr.sameNow d k m.key=some true∧Instr.findNow d k L i=some (some (i+j,m.val))
 | [],i,_=>.inl ⟨rfl,fun m hm=>by cases hm⟩
 |e::L,i,h=>by
  have h0:=h e (by simp)
  cases hs:Instr.sameNow d k e.key with
  |none=>rw [hs] at h0;cases h0
  |some q=>
   cases q with
   |true=>exact .inr ⟨0,e,rfl,hs,by simp [Instr.findNow,hs]⟩
   |false=>
    rcases Aw d k L (i+1) (fun m hm=>h m (by simp [hm])) with ⟨h1,h2⟩|⟨j,m,h1,h2,h3⟩
    ·refine .inl ⟨by simp [Instr.findNow,hs,h1],fun m hm=>?_⟩
     rcases List.mem_cons.1 hm with rfl|hm
     ·exact hs
     ·exact h2 m hm
    ·exact .inr ⟨j+1,m,by simpa using h1,h2,by simp only [Instr.findNow,hs];rw [h3,show i+1+j=i+(j+1) from by omega]⟩
theorem Bm (a b:ByteArray):(a == b)=true↔a=b:=by
 obtain ⟨x⟩:=a
 obtain ⟨y⟩:=b
 show (x == y)=true↔_
 simp
theorem x6 {d:TypeDesc} {k a:Value} {q:Bool} (h:Instr.sameNow d k a=some q) :
 (∃ kd k0 n m,d = .int kd∧k = .int k0 n∧a = .int k0 m∧q=(n == m))∨(∃ s t,d = .string∧k = .string s∧a = .string t∧q=(s == t))∨(∃ x y,d = .bool∧k = .bool x∧a = .bool y∧q=(x == y)):=by
 unfold Instr.sameNow at h
 split at h
 ·split at h
  ·rename_i e
   subst e
   simp only [Option.some.injEq] at h
   exact .inl ⟨_,_,_,_,rfl,rfl,rfl,h.symm⟩
  ·cases h
 ·simp only [Option.some.injEq] at h
  exact .inr (.inl ⟨_,_,rfl,rfl,rfl,h.symm⟩)
 ·simp only [Option.some.injEq] at h
  exact .inr (.inr ⟨_,_,rfl,rfl,rfl,h.symm⟩)
 ·cases h
theorem afc {d:TypeDesc} {k a b:Value} (ha:Instr.sameNow d k a=some true) (hb:Instr.sameNow d k b=some true):sn a b=false:=by
 rcases x6 ha with ⟨kd,k0,n,m,rfl,rfl,rfl,e⟩|⟨s,t,rfl,rfl,rfl,e⟩|⟨x,y,rfl,rfl,rfl,e⟩
 ·rcases x6 hb with ⟨kd',k0',n',m',_,e2,rfl,e3⟩|⟨s,t,e2,_⟩|⟨x,y,e2,_⟩
  ·cases e2
   have e4:=eq_of_beq e.symm
   have e5:=eq_of_beq e3.symm
   subst e4 e5
   simp [sn]
  ·cases e2
  ·cases e2
 ·rcases x6 hb with ⟨kd',k0',n',m',e2,_⟩|⟨s',t',_,e2,rfl,e3⟩|⟨x,y,e2,_⟩
  ·cases e2
  ·cases e2
   have e4:=(Bm _ _).1 e.symm
   have e5:=(Bm _ _).1 e3.symm
   subst e4 e5
   have:(s == s)=true:=(Bm _ _).2 rfl
   simp [sn,this]
  ·cases e2
 ·rfl
theorem Z2 {d:TypeDesc} {k a b:Value} (h:sn a b=true) (ha:(Instr.sameNow d k a).isSome=true):(Instr.sameNow d k b).isSome=true:=by
 obtain ⟨q,hq⟩:=Option.isSome_iff_exists.1 ha
 rcases x6 hq with ⟨kd,k0,n,m,rfl,rfl,rfl,e⟩|⟨s,t,rfl,rfl,rfl,e⟩|⟨x,y,rfl,rfl,rfl,e⟩
 ·cases b<;>first|(cases h;done)|skip
  rename_i k1 n1
  simp only [sn,Bool.and_eq_true,decide_eq_true_eq] at h
  obtain ⟨rfl,_⟩:=h
  simp [Instr.sameNow]
 ·cases b<;>first|(cases h;done)|rfl
 ·cases h
theorem aen (a b:Value):sn a b=sn b a:=by
 cases a<;>cases b<;>first|rfl|skip
 ·rename_i k n k' m
  simp only [sn]
  by_cases h1:k=k'
  ·subst h1
   have:(n == m)=(m == n):=Bool.eq_iff_iff.2 ⟨fun h=>beq_iff_eq.2 (eq_of_beq h).symm,fun h=>beq_iff_eq.2 (eq_of_beq h).symm⟩
   simp [this]
  ·simp [h1,Ne.symm h1]
 ·rename_i s t
  simp only [sn]
  have:(s == t)=(t == s):=Bool.eq_iff_iff.2 (by rw [Bm,Bm];exact eq_comm)
  rw [this]
theorem Js:∀ {es:List (Value × AV)},Bs es=true→∀ {i j:Nat} {e e':Value × AV},i<j→es[i]? = some e→es[j]? = some e'→sn e.1 e'.1=true
 | [],_,i,j,e,e',_,h,_=>by simp at h
 |a::r,h,i,j,e,e',hij,hi,hj=>by
  simp only [Bs,Bool.and_eq_true,List.all_eq_true] at h
  obtain ⟨j,rfl⟩:∃ q,j=q+1:=⟨j - 1,by omega⟩
  cases i with
  |zero=>
   simp at hi
   subst hi
   exact h.1 e' (List.mem_of_getElem? (by rw [List.getElem?_cons_succ] at hj;exact hj))
  |succ i=>
   rw [List.getElem?_cons_succ] at hi hj
   exact Js h.2 (by omega) hi hj
theorem Se {es:List (Value × AV)} (h:Bs es=true) {i j:Nat} {e e':Value × AV} (hij:i≠j) (hi:es[i]? = some e) (hj:es[j]? = some e'):sn e.1 e'.1=true:=by
 rcases Nat.lt_or_gt_of_ne hij with q|q
 ·exact Js h q hi hj
 ·rw [aen];exact Js h q hj hi
def axf (P:Program) (g:Gh) (w:World) (kt:TypeId) (k:Value) (es:List (Value × AV)) (ms:Array MapEntry) (r:Option Nat):Prop:=
 (r=none∧(Instr.findKey kt k ms.toList).run P w = .ok none w) ∨
 ∃ i j e m l,r=some i∧es[i]? = some e∧ms[j]? = some m∧(Instr.findKey kt k ms.toList).run P w = .ok (some (j,m.val)) w∧l.Perm ms.toList∧l[i]? = some m ∧
  (∀ (i:Nat) e m,es[i]? = some e→l[i]? = some m→m.key=e.1∧Rel g w e.2 m.val)∧(l=ms.toList∧i=j∨loose es=true)
theorem Aj {P:Program} {g:Gh} {w:World} {kt:TypeId} {k:Value} {es:List (Value × AV)} {ms:Array MapEntry} {c:Nat} (hm:pw g w es ms c) {r:Option Nat} (h:tg P kt k es=some r):axf P g w kt k es ms r:=by
 unfold tg at h
 cases hlo:loose es with
 |false=>
  rw [hlo] at h
  rcases aeg hm.len (hm.exact hlo) h with h1|⟨i,e,m,h1,h2,h3,h4⟩
  ·exact .inl h1
  ·exact .inr ⟨i,i,e,m,ms.toList,h1,h2,h3,h4,.refl _,by simpa using h3,fun i e m he hm'=>hm.exact hlo i e m he (by simpa using hm'),.inl ⟨rfl,rfl⟩⟩
 |true=>
  rw [hlo] at h
  cases hn:aj3 P kt k es with
  |false=>rw [hn] at h;cases h
  |true=>
  rw [hn] at h
  simp only [Bool.not_true,Bool.or_true,cond_true] at h
  unfold aj3 at hn
  cases hu:P.underlying kt with
  |none=>rw [hu] at hn;cases hn
  |some d=>
  rw [hu] at hn
  simp only at hn
  have hevu:ev P (underlying kt)=some d:=by
   simp [underlying,program,ev,hu,uf,Cs,Sem.bind,bind]
  have hevk:ev P (Instr.findKey kt k (ry es))=Instr.findNow d k (ry es) 0:=by
   unfold Instr.findKey
   rw [uf,hevu]
   simp only [Option.bind_some]
   cases hq:Instr.findNow d k (ry es) 0 with
   |none=>rw [hq] at hn;cases hn
   |some q=>rfl
  rw [hevk] at h
  unfold loose at hlo
  simp only [Bool.and_eq_true] at hlo
  obtain ⟨hlen2,hap⟩:=hlo
  have hlen2:=Nat.le_of_ble_eq_true hlen2
  obtain ⟨l,p1,p2,p3⟩:=hm.perm
  have hll:l.length=es.length:=by rw [p1.length_eq,← hm.len];simp
  have hkeysM:∀ (i:Nat) m,(ry es)[i]? = some m→∃ e,es[i]? = some e∧m.key=e.1:=fun i m hi=>by
   simp only [ry,List.getElem?_map,Option.map_eq_some_iff] at hi
   obtain ⟨e,h1,rfl⟩:=hi
   exact ⟨e,h1,rfl⟩
  have hes:∀ (i:Nat) e,es[i]? = some e→(Instr.sameNow d k e.1).isSome=true:=by
   obtain ⟨e0,r0,rfl⟩:∃ e0 r0,es=e0::r0:=by
    cases es with
    |nil=>simp at hlen2
    |cons a r=>exact ⟨a,r,rfl⟩
   have h0:(Instr.sameNow d k e0.1).isSome=true:=by
    simp only [ry,List.map_cons,Instr.findNow] at hn
    cases hq:Instr.sameNow d k e0.1 with
    |none=>rw [hq] at hn;cases hn
    |some q=>rfl
   intro i e hi
   cases i with
   |zero=>simp at hi;subst hi;exact h0
   |succ i=>exact Z2 (Se hap (i:=0) (j:=i+1) (by omega) rfl hi) h0
  have hmem:∀ m ∈ ms.toList,∃ (i:Nat) (e:Value × AV),l[i]? = some m∧es[i]? = some e∧m.key=e.1:=fun m hmm=>by
   obtain ⟨i,hi⟩:=List.mem_iff_getElem?.1 (p1.mem_iff.2 hmm)
   have hil:i<es.length:=by rw [← hll];exact (List.getElem?_eq_some_iff.1 hi).1
   exact ⟨i,es[i],hi,List.getElem?_eq_getElem hil,(p2 i _ m (List.getElem?_eq_getElem hil) hi).1⟩
  have hms:∀ m ∈ ms.toList,(Instr.sameNow d k m.key).isSome=true:=fun m hmm=>by
   obtain ⟨i,e,_,h2,h3⟩:=hmem m hmm
   rw [h3];exact hes i e h2
  have hks:∀ m ∈ ry es,(Instr.sameNow d k m.key).isSome=true:=fun m hmm=>by
   obtain ⟨i,hi⟩:=List.mem_iff_getElem?.1 hmm
   obtain ⟨e,h1,h2⟩:=hkeysM i m hi
   rw [h2];exact hes i e h1
  have hrun:∀ r,Instr.findNow d k ms.toList 0=some r→(Instr.findKey kt k ms.toList).run P w = .ok r w:=fun r hr=>by simp [Instr.findKey,run_underlying hu,hr]
  rcases Aw d k ms.toList 0 hms with ⟨a1,a2⟩|⟨j,m,a1,a2,a3⟩
  ·rcases Aw d k (ry es) 0 hks with ⟨b1,b2⟩|⟨i,m,b1,b2,b3⟩
   ·rw [b1] at h
    simp at h
    exact .inl ⟨h.symm,hrun _ a1⟩
   ·exfalso
    obtain ⟨e,c1,c2⟩:=hkeysM i m b1
    have hil:i<l.length:=by rw [hll];exact (List.getElem?_eq_some_iff.1 c1).1
    have hl:=List.getElem?_eq_getElem hil
    have:=(p2 i e _ c1 hl).1
    have hf:=a2 l[i] (p1.mem_iff.1 (List.mem_of_getElem? hl))
    rw [this,← c2,b2] at hf
    cases hf
  ·obtain ⟨i,e,c1,c2,c3⟩:=hmem m (List.mem_of_getElem? a1)
   rcases Aw d k (ry es) 0 hks with ⟨b1,b2⟩|⟨i',m',b1,b2,b3⟩
   ·exfalso
    have hk:(ry es)[i]? = some { key:=e.1,val:=undef,born:=0 }:=by simp [ry,c2]
    have:=b2 _ (List.mem_of_getElem? hk)
    simp only at this
    rw [← c3,a2] at this
    cases this
   ·obtain ⟨e',d1,d2⟩:=hkeysM i' m' b1
    have hii:i'=i:=by
     rcases Nat.decEq i' i with hne|he
     ·have h5:=Se hap hne d1 c2
      rw [← d2,← c3,afc b2 a2] at h5
      cases h5
     ·exact he
    subst hii
    rw [b3] at h
    simp at h
    refine .inr ⟨i',j,e,m,l,h.symm,c2,by simpa using a1,hrun _ (by simpa using a3),p1,c1,p2,.inr ?_⟩
    unfold loose
    rw [Nat.ble_eq_true_of_le hlen2,hap]
    rfl
theorem aim {α:Type} {l k:List α} (h:l.Perm k) (hl:l.length≤1):l=k:=by
 match l,hl with
 | [],_=>exact (h.symm.eq_nil).symm
 | [a],_=>exact (List.perm_singleton.1 h.symm).symm
theorem Hy {es es':List (Value × AV)} {l l' k k':List MapEntry} (hx:l=k→l'=k') (hm:l=k∨loose es=true) (hs:stays es es'=true) (hp:l'.Perm k') (hlen:l'.length=es'.length):l'=k'∨loose es'=true:=by
 rcases hm with hm|hm
 ·exact .inl (hx hm)
 ·unfold stays at hs
  rw [hm] at hs
  simp only [Bool.not_true,Bool.false_or,Bool.or_eq_true] at hs
  rcases hs with hs|hs
  ·exact .inr hs
  ·exact .inl (aim hp (by rw [hlen];exact Nat.le_of_ble_eq_true hs))
theorem awh {P:Program} {w:World} {b:Nat} {ms:Array MapEntry} {c:Nat} (o:Obj) (h:w.heap[b]? = some (.map ms c)):(setObj b o).run P w = .ok () (gg w b o):=by
 simp [setObj,Sem.run,h,gg]
theorem Mk {P:Program} {g:Gh} {st s1 st':St} {w:World} {o b base:Nat} {es es':List (Value × AV)} {ms ms':Array MapEntry} {c c':Nat} {u:Unit}
 (hok:Ok g st.h w) (ho:st.h.get o=some (.map es)) (hi:g.inj o=some (b,base)) (hb0:base=0) (hm:w.heap[b]? = some (.map ms c)) (hrel:pw g w es' ms' c')
 (hs1:s1.h=st.h∧s1.nx=st.nx) (h:qh o (.map es') s1=some (u,st')) :
 (setObj b (.map ms' c')).run P w = .ok () (gg w b (.map ms' c'))∧Step g st.h w st.nx st'.nx g st'.h (gg w b (.map ms' c'))∧Ok g st'.h (gg w b (.map ms' c')):=by
 obtain ⟨_,hlim,hh2,hn2⟩:=xg h
 have hmod:=vk (x:=.map es) (x':=.map es') (lo:=st.nx) (up:=st'.nx) (ob':=.map ms' c') hok ho hi hm (fun cs0 e0 fr0 he=>by cases he)
  (fun j hj=>by simp [World.cell?,hm,gp _ (bt hm)]) hlim
  (fun hext=>⟨hb0,ms',c',gp _ (bt hm),hrel.same rfl id fun i e v he=>⟨e,he,rfl,fun hr=>hr.ext hext⟩⟩)
 exact ⟨awh _ hm,by rw [hh2,hs1.1];exact hmod.1,by rw [hh2,hs1.1];exact hmod.2⟩
theorem isEmpty_eq {es:List (Value × AV)} {ms:Array MapEntry} (h:ms.size=es.length):ms.isEmpty=es.isEmpty:=by
 cases es with
 |nil=>simp at h;simp [h]
 |cons e es=>
  simp only [List.isEmpty_cons]
  cases hm:ms.isEmpty with
  |false=>rfl
  |true=>simp at hm;subst hm;simp at h
theorem X8 {P:Program} {kt et:TypeId} {k:Value} {ok:Bool} {x:bh} {s st':St} {r:AV} (h:Ld P kt et k ok x s=some (r,st')) :
 ∃ es,x = .map es∧ev P (Instr.checkKey es.isEmpty 10000 kt k)=some ()∧∃ z,fh P et=some z∧st'=s ∧
  ((∃ i e,tg P kt k es=some (some i)∧es[i]? = some e∧r=bif ok then .ga [e.2,.sc (.bool true)] else e.2)∨(tg P kt k es=some none∧r=bif ok then .ga [.sc z,.sc (.bool false)] else .sc z)):=by
 cases x with
 |row=>cases h
 |loop=>cases h
 |map es=>
  refine ⟨es,rfl,?_⟩
  simp only [Ld] at h
  cases hc:ev P (Instr.checkKey es.isEmpty 10000 kt k) with
  |none=>simp [hc,M.fail] at h
  |some u=>
  cases hf:tg P kt k es with
  |none=>simp [hc,hf,M.fail] at h
  |some q=>
  refine ⟨rfl,?_⟩
  cases q with
  |none=>
   simp only [hc,hf] at h
   cases hz:fh P et with
   |none=>simp [hz,found,M.fail] at h
   |some z=>
    rw [hz] at h
    obtain ⟨h1,h2⟩:=cp h
    exact ⟨z,rfl,h2,.inr ⟨rfl,h1⟩⟩
  |some i=>
   simp only [hc,hf] at h
   cases he:es[i]? with
   |none=>simp [he,M.fail] at h
   |some e=>
   rw [he] at h
   cases hz:fh P et with
   |none=>simp [hz,found,M.fail] at h
   |some z=>
    rw [hz] at h
    obtain ⟨h1,h2⟩:=cp h
    exact ⟨z,rfl,h2,.inl ⟨i,e,rfl,he,h1⟩⟩
theorem au4 {g w a v} {b:Bool} (h:Rel g w a v):Rel g w (.ga [a,.sc (.bool b)]) (.tuple #[v,.bool b]):=
 .ga _ _ rfl (fun i x y h1 h2=>by
  cases i with
  |zero=>simp at h1 h2;subst h1 h2;exact h
  |succ i=>cases i with
   |zero=>simp at h1 h2;subst h1 h2;exact .sc _
   |succ i=>simp at h1)
theorem aey {P:Program} {g st st' w} {t:TypeId} {x ix r:AV} {v k:Value} {ok:Bool} (hok:Ok g st.h w) (hx:Rel g w x v) (hk:Rel g w ix k) (h:Oy P t x ix ok st=some (r,st')) :
 da P g st w (Instr.lookup t v k ok) r st':=by
 unfold Oy at h
 cases hu:P.underlying t with
 |none=>simp [hu,M.fail] at h
 |some d=>
 rw [hu] at h
 cases d with
 |map kt et=>
  cases x with
  |mp id=>
   cases hkv:ix.gn with
   |none=>simp [hkv,M.fail] at h
   |some kv=>
   simp only [hkv] at h
   have:=hk.exact hkv
   subst this
   obtain ⟨y,s1,h1,h2⟩:=bind_some h
   obtain ⟨hy,hh,hn⟩:=gb h1
   obtain ⟨es,rfl,hc,z,hz,rfl,hr⟩:=X8 h2
   cases hx with
   |mp _ b base hi=>
   obtain ⟨b',base',hi',_,hrel⟩:=hok.obj id _ hy
   rw [hi] at hi';cases hi'
   obtain ⟨_,ms,clock,m1,m2⟩:=hrel
   have hck:=Au _ _ w hc
   rw [← isEmpty_eq m2.len] at hck
   rcases hr with ⟨i,e,hf,he,rfl⟩|⟨hf,rfl⟩
   ·rcases Aj m2 hf with ⟨h3,_⟩|⟨i',j,e',m,l,h3,h4,h5,h6,_,h7,h8,_⟩
    ·cases h3
    ·cases h3
     rw [he] at h4;cases h4
     cases ok with
     |true=>exact da.still hok hh (by simp [Instr.lookup,run_underlying hu,zd m1,hck,h6]) (au4 (h8 _ _ _ he h7).2)
     |false=>exact da.still hok hh (by simp [Instr.lookup,run_underlying hu,zd m1,hck,h6]) (h8 _ _ _ he h7).2
   ·rcases Aj m2 hf with ⟨_,h3⟩|⟨i',j,e',m,l,h3,_⟩
    ·cases ok with
     |true=>exact da.still hok hh (by simp [Instr.lookup,run_underlying hu,zd m1,hck,h3,ky hz]) (au4 (.sc z))
     |false=>exact da.still hok hh (by simp [Instr.lookup,run_underlying hu,zd m1,hck,h3,ky hz]) (.sc z)
    ·cases h3
  |_=>cases h
 |_=>cases h
theorem Eu {α:Type} (l:List α) (i:Nat) (x : α) (hi:i<l.length) (j:Nat):(setAt l i x)[j]? = if j=i then some x else l[j]? := by
 unfold setAt
 have hl:(l.take i).length=i:=by simp;omega
 by_cases h1:j<i
 ·rw [List.getElem?_append_left (by omega),List.getElem?_take,if_pos h1,if_neg (by omega)]
 ·rw [List.getElem?_append_right (by omega),hl]
  by_cases h2:j=i
  ·subst h2;simp
  ·rw [if_neg h2,show j - i=(j - i - 1)+1 from by omega,List.getElem?_cons_succ,List.getElem?_drop]
   congr 1;omega
theorem Du {α:Type} (l:List α) (i:Nat) (x : α) (hi:i<l.length):(setAt l i x).length=l.length:=by
 unfold setAt;simp;omega
theorem X7 {P:Program} {id:Nat} {kt:TypeId} {key:Value} {v:AV} {x:bh} {s st':St} {r:AV} (h:Kn P id kt key v x s=some (r,st')) :
 ∃ es,x = .map es∧ev P (Instr.checkKey false 10000 kt key)=some ()∧r = .sc undef ∧
  (
   (∃ i e key' u,tg P kt key es=some (some i)∧es[i]? = some e∧ev P (Instr.keyThatStays e.1 key)=some key'∧stays es (setAt es i (key',v))=true∧qh id (.map (setAt es i (key',v))) s=some (u,st')) ∨
   (∃ u,tg P kt key es=some none∧stays es (es++[(key,v)])=true∧qh id (.map (es++[(key,v)])) s=some (u,st'))):=by
 cases x with
 |row=>cases h
 |loop=>cases h
 |map es=>
  refine ⟨es,rfl,?_⟩
  simp only [Kn] at h
  cases hc:ev P (Instr.checkKey false 10000 kt key) with
  |none=>simp [hc,M.fail] at h
  |some u=>
  cases hf:tg P kt key es with
  |none=>simp [hc,hf,M.fail] at h
  |some q=>
  refine ⟨rfl,?_⟩
  cases q with
  |none=>
   simp only [hc,hf] at h
   rcases ct h with ⟨hs,h⟩|⟨_,h⟩
   ·obtain ⟨u,s1,h1,h2⟩:=bind_some h
    obtain ⟨rfl,rfl⟩:=cp h2
    exact ⟨rfl,.inr ⟨u,rfl,hs,h1⟩⟩
   ·cases h
  |some i=>
   simp only [hc,hf] at h
   cases he:es[i]? with
   |none=>simp [he,M.fail] at h
   |some e=>
   simp only [he] at h
   cases hk:ev P (Instr.keyThatStays e.1 key) with
   |none=>simp [hk,M.fail] at h
   |some key'=>
   simp only [hk] at h
   rcases ct h with ⟨hs,h⟩|⟨_,h⟩
   ·obtain ⟨u,s1,h1,h2⟩:=bind_some h
    obtain ⟨rfl,rfl⟩:=cp h2
    exact ⟨rfl,.inl ⟨i,e,key',u,rfl,he,hk,hs,h1⟩⟩
   ·cases h
theorem acy {L:List MapEntry} (hb:(L.map (·.born)).Nodup) {i j:Nat} {m:MapEntry} (hi:L[i]? = some m) (hj:L[j]? = some m):i=j:=by
 have key:∀ i j:Nat,i<j→L[i]? = some m→L[j]? = some m→False:=by
  intro i j hij hi hj
  obtain ⟨h1,e1⟩:=List.getElem?_eq_some_iff.1 hi
  obtain ⟨h2,e2⟩:=List.getElem?_eq_some_iff.1 hj
  have:=List.pairwise_iff_getElem.1 hb i j (by simpa using h1) (by simpa using h2) hij
  simp only [List.getElem_map,e1,e2] at this
  exact this rfl
 rcases Nat.lt_trichotomy i j with q|q|q
 ·exact (key i j q hi hj).elim
 ·exact q
 ·exact (key j i q hj hi).elim
theorem Cg {α:Type} {l:List α} {i:Nat} {m : α} (h:l[i]? = some m):l.Perm (m::(l.take i++l.drop (i+1)))∧∀ m',(setAt l i m').Perm (m'::(l.take i++l.drop (i+1))):=by
 obtain ⟨hi,rfl⟩:=List.getElem?_eq_some_iff.1 h
 refine ⟨?_,fun m'=>List.perm_middle⟩
 have:l=l.take i++l[i]::l.drop (i+1):=by rw [← List.drop_eq_getElem_cons hi,List.take_append_drop]
 exact (List.Perm.of_eq this).trans List.perm_middle
theorem abz {α:Type} {l k:List α} (h:l.Perm k) {i j:Nat} {m : α} (hi:l[i]? = some m) (hj:k[j]? = some m):(l.take i++l.drop (i+1)).Perm (k.take j++k.drop (j+1)):=
 List.Perm.cons_inv (((Cg hi).1.symm.trans h).trans (Cg hj).1)
theorem ah7 {α:Type} {l k:List α} (h:l.Perm k) {i j:Nat} {m m' : α} (hi:l[i]? = some m) (hj:k[j]? = some m):(setAt l i m').Perm (setAt k j m'):=
 (((Cg hi).2 m').trans ((abz h hi hj).cons m')).trans ((Cg hj).2 m').symm
theorem Ty {α:Type} (l:List α) (i:Nat) (hi:i<l.length) (j:Nat):(l.take i++l.drop (i+1))[j]? = if j<i then l[j]? else l[j+1]? := by
 have hl:(l.take i).length=i:=by simp;omega
 by_cases h1:j<i
 ·rw [if_pos h1,List.getElem?_append_left (by omega),List.getElem?_take,if_pos h1]
 ·rw [if_neg h1,List.getElem?_append_right (by omega),hl,List.getElem?_drop]
  congr 1;omega
theorem N2 {P:Program} {g st st' w} {t:TypeId} {m k x r:AV} {mv kv xv:Value} (hok:Ok g st.h w) (hm:Rel g w m mv) (hk:Rel g w k kv) (hx:Rel g w x xv) (h:O0 P t m k x st=some (r,st')) :
 ∃ w' g',(Instr.mapUpdate t mv kv xv).run P w = .ok () w'∧Step g st.h w st.nx st'.nx g' st'.h w'∧Ok g' st'.h w'∧r = .sc undef:=by
 unfold O0 at h
 cases hu:P.underlying t with
 |none=>simp [hu,M.fail] at h
 |some d=>
 rw [hu] at h
 cases d with
 |map kt et=>
  cases m with
  |mp id=>
   cases hkv:k.gn with
   |none=>simp [hkv,M.fail] at h
   |some key=>
   simp only [hkv] at h
   have:=hk.exact hkv
   subst this
   obtain ⟨y,s1,h1,h2⟩:=bind_some h
   obtain ⟨hy,hh,hn⟩:=gb h1
   obtain ⟨es,rfl,hc,rfl,hr⟩:=X7 h2
   cases hm with
   |mp _ b base hi=>
   obtain ⟨b',base',hi',_,hrel⟩:=hok.obj id _ hy
   rw [hi] at hi';cases hi'
   obtain ⟨hb0,ms,clock,m1,m2⟩:=hrel
   have hck:=Au _ _ w hc
   rcases hr with ⟨i,e,key',u,hf,he,hkt,hst',hs⟩|⟨u,hf,hst',hs⟩
   ·rcases Aj m2 hf with ⟨h3,_⟩|⟨i',j,e',mm,l,h3,h4,h5,h6,p1,p2,p3,p4⟩
    ·cases h3
    ·cases h3
     rw [he] at h4;cases h4
     have hil:i<es.length:=(List.getElem?_eq_some_iff.1 he).1
     have hll:l.length=es.length:=by rw [p1.length_eq,← m2.len];simp
     have hkey:=(p3 _ _ _ he p2).1
     have hst:=Au _ _ w hkt
     rw [← hkey] at hst
     have h5':ms.toList[j]? = some mm:=by simpa using h5
     have hjl:=(List.getElem?_eq_some_iff.1 h5').1
     have hml:(ms.modify j fun e=>{ e with key:=key',val:=xv }).toList=setAt ms.toList j { mm with key:=key',val:=xv }:=by
      apply List.ext_getElem?
      intro n
      rw [Array.getElem?_toList,Array.getElem?_modify,Eu _ _ _ hjl,Array.getElem?_toList]
      by_cases hn:n=j
      ·subst hn;simp [h5]
      ·rw [if_neg hn,if_neg (Ne.symm hn)]
     have hborn:(ms.modify j fun e=>{ e with key:=key',val:=xv }).toList.map (·.born)=ms.toList.map (·.born):=by
      apply List.ext_getElem?
      intro n
      rw [hml,List.getElem?_map,List.getElem?_map,Eu _ _ _ hjl]
      by_cases hn:n=j
      ·subst hn;rw [if_pos rfl,h5'];rfl
      ·rw [if_neg hn]
     have hrel':pw g w (setAt es i (key',x)) (ms.modify j fun e=>{ e with key:=key',val:=xv }) clock:=by
      have hp:=ah7 (m':={ mm with key:=key',val:=xv }) p1 p2 h5'
      refine ⟨by rw [Du _ _ _ hil];simpa using m2.len,by rw [hborn];exact m2.born,fun m hm=>?_,setAt l i { mm with key:=key',val:=xv },by rw [hml];exact hp,fun n e m hj hm=>?_,?_⟩
      ·have:m.born ∈ ms.toList.map (·.born):=by rw [← hborn];exact List.mem_map_of_mem hm
       obtain ⟨m0,q1,q2⟩:=List.mem_map.1 this
       rw [← q2];exact m2.Nk m0 q1
      ·rw [Eu _ _ _ hil] at hj
       rw [Eu _ _ _ (by omega)] at hm
       by_cases hji:n=i
       ·rw [if_pos hji] at hj hm
        cases hj;cases hm
        exact ⟨rfl,hx⟩
       ·rw [if_neg hji] at hj hm
        exact p3 n e m hj hm
      ·refine Hy (k:=ms.toList) (l:=l) (fun e=>?_) (p4.imp (·.1) (fun h=>h)) hst' (by rw [hml];exact hp) (by rw [Du _ _ _ (by omega),Du _ _ _ hil,hll])
       rw [hml]
       subst e
       rw [acy m2.born p2 h5']
     obtain ⟨q1,q2,q3⟩:=Mk (P:=P) (ms':=ms.modify j fun e=>{ e with key:=key',val:=xv }) (c':=clock) hok hy hi hb0 m1 hrel' ⟨hh,hn⟩ hs
     refine ⟨_,g,?_,q2,q3,rfl⟩
     simp [Instr.mapUpdate,run_underlying hu,zd m1,hck,h6,h5,hst,q1]
   ·rcases Aj m2 hf with ⟨_,h3⟩|⟨i',j,e',mm,l,h3,_⟩
    ·obtain ⟨l,p1,p2,p3⟩:=m2.perm
     have hll:l.length=es.length:=by rw [p1.length_eq,← m2.len];simp
     have hrel':pw g w (es++[(kv,x)]) (ms.push { key:=kv,val:=xv,born:=clock }) (clock+1):=by
      have hp:(l++[({ key:=kv,val:=xv,born:=clock }:MapEntry)]).Perm (ms.push { key:=kv,val:=xv,born:=clock }).toList:=by
       rw [Array.toList_push];exact p1.append_right _
      refine ⟨by simp [m2.len],?_,fun m hm=>?_,_,hp,fun n e m hj hm=>?_,?_⟩
      ·rw [Array.toList_push,List.map_append,List.nodup_append]
       refine ⟨m2.born,by simp,fun b hb b' hb'=>?_⟩
       obtain ⟨m,q1,rfl⟩:=List.mem_map.1 hb
       simp at hb'
       have:=m2.Nk m q1
       omega
      ·rw [Array.toList_push] at hm
       rcases List.mem_append.1 hm with hm|hm
       ·exact Nat.lt_succ_of_lt (m2.Nk m hm)
       ·simp at hm;subst hm;exact Nat.lt_succ_self _
      ·by_cases hjl:n<es.length
       ·rw [List.getElem?_append_left hjl] at hj
        rw [List.getElem?_append_left (by omega)] at hm
        exact p2 n e m hj hm
       ·rw [List.getElem?_append_right (by omega)] at hj hm
        have hj1:n=es.length:=by
         have:=(List.getElem?_eq_some_iff.1 hj).1;simp at this;omega
        subst hj1
        rw [hll] at hm
        simp at hj hm
        subst hj hm
        exact ⟨rfl,hx⟩
      ·exact Hy (k:=ms.toList) (l:=l) (fun e=>by rw [Array.toList_push,e]) p3 hst' hp (by simp [hll])
     obtain ⟨q1,q2,q3⟩:=Mk (P:=P) (ms':=ms.push { key:=kv,val:=xv,born:=clock }) (c':=clock+1) hok hy hi hb0 m1 hrel' ⟨hh,hn⟩ hs
     refine ⟨_,g,?_,q2,q3,rfl⟩
     simp [Instr.mapUpdate,run_underlying hu,zd m1,hck,h3,q1]
    ·cases h3
  |_=>cases h
 |_=>cases h
theorem Yi {P:Program} {id:Nat} {kt:TypeId} {key:Value} {x:bh} {s st':St} {r:AV} (h:Kj P id kt key x s=some (r,st')) :
 ∃ es,x = .map es∧ev P (Instr.checkKey es.isEmpty 10000 kt key)=some ()∧r = .sc (.tuple #[]) ∧
  (
   (∃ i u,tg P kt key es=some (some i)∧stays es (es.take i++es.drop (i+1))=true∧qh id (.map (es.take i++es.drop (i+1))) s=some (u,st')) ∨
   (∃ u,tg P kt key es=some none∧qh id (.map es) s=some (u,st'))):=by
 cases x with
 |row=>cases h
 |loop=>cases h
 |map es=>
  refine ⟨es,rfl,?_⟩
  simp only [Kj] at h
  cases hc:ev P (Instr.checkKey es.isEmpty 10000 kt key) with
  |none=>simp [hc,M.fail] at h
  |some u=>
  cases hf:tg P kt key es with
  |none=>simp [hc,hf,M.fail] at h
  |some q=>
  refine ⟨rfl,?_⟩
  cases q with
  |none=>
   simp only [hc,hf] at h
   obtain ⟨u,s1,h1,h2⟩:=bind_some h
   obtain ⟨rfl,rfl⟩:=cp h2
   exact ⟨rfl,.inr ⟨u,rfl,h1⟩⟩
  |some i=>
   simp only [hc,hf] at h
   rcases ct h with ⟨hs,h⟩|⟨_,h⟩
   ·obtain ⟨u,s1,h1,h2⟩:=bind_some h
    obtain ⟨rfl,rfl⟩:=cp h2
    exact ⟨rfl,.inl ⟨i,u,rfl,hs,h1⟩⟩
   ·cases h
theorem ad6 {P:Program} {g st st' w} {ts:Array TypeId} {ty:TypeId} {m k r:AV} {mv kv:Value} (hok:Ok g st.h w) (hm:Rel g w m mv) (hk:Rel g w k kv) (h:Pb P ((ts[0]?).bind P.underlying) m k st=some (r,st')) :
 da P g st w (Builtin.delete_ ts ty #[mv,kv]) r st':=by
 unfold Pb at h
 cases h0:ts[0]? with
 |none=>simp [h0,M.fail] at h
 |some t=>
 rw [h0] at h
 simp only [Option.bind_some] at h
 cases hu:P.underlying t with
 |none=>simp [hu,M.fail] at h
 |some d=>
 rw [hu] at h
 cases d with
 |map kt et=>
  cases m with
  |mp id=>
   cases hkv:k.gn with
   |none=>simp [hkv,M.fail] at h
   |some key=>
   simp only [hkv] at h
   have:=hk.exact hkv
   subst this
   obtain ⟨y,s1,h1,h2⟩:=bind_some h
   obtain ⟨hy,hh,hn⟩:=gb h1
   obtain ⟨es,rfl,hc,rfl,hr⟩:=Yi h2
   cases hm with
   |mp _ b base hi=>
   obtain ⟨b',base',hi',_,hrel⟩:=hok.obj id _ hy
   rw [hi] at hi';cases hi'
   obtain ⟨hb0,ms,clock,m1,m2⟩:=hrel
   have hck:=Au _ _ w hc
   rw [← isEmpty_eq m2.len] at hck
   rcases hr with ⟨i,u,hf,hst',hs⟩|⟨u,hf,hs⟩
   ·rcases Aj m2 hf with ⟨h3,_⟩|⟨i',j,e',mm,l,h3,h4,h5,h6,p1,p2,p3,p4⟩
    ·cases h3
    ·cases h3
     have hil:i<es.length:=(List.getElem?_eq_some_iff.1 h4).1
     have hll:l.length=es.length:=by rw [p1.length_eq,← m2.len];simp
     have h5':ms.toList[j]? = some mm:=by simpa using h5
     have hjl:=(List.getElem?_eq_some_iff.1 h5').1
     have hms:j<ms.size:=by simpa using hjl
     have hE:ms.eraseIdxIfInBounds j=ms.eraseIdx j hms:=by simp [Array.eraseIdxIfInBounds,hms]
     have hml:(ms.eraseIdxIfInBounds j).toList=ms.toList.take j++ms.toList.drop (j+1):=by
      apply List.ext_getElem?
      intro n
      rw [hE,Array.getElem?_toList,Array.getElem?_eraseIdx,Ty _ _ hjl,Array.getElem?_toList,Array.getElem?_toList]
     have hsub:(ms.eraseIdxIfInBounds j).toList.Sublist ms.toList:=by
      rw [hml]
      have:=(List.drop_sublist_drop_left ms.toList (show j≤j+1 by omega)).append_left (ms.toList.take j)
      rwa [List.take_append_drop] at this
     have hrel':pw g w (es.take i++es.drop (i+1)) (ms.eraseIdxIfInBounds j) clock:=by
      have hp:=abz p1 p2 h5'
      refine ⟨?_,(hsub.map _).nodup m2.born,fun m hm=>m2.Nk m (hsub.subset hm),l.take i++l.drop (i+1),by rw [hml];exact hp,fun n e m hj hm=>?_,?_⟩
      ·have:=m2.len
       rw [hE,Array.size_eraseIdx];simp;omega
      ·rw [Ty _ _ hil] at hj
       rw [Ty _ _ (by omega)] at hm
       by_cases hji:n<i
       ·rw [if_pos hji] at hj hm
        exact p3 n e m hj hm
       ·rw [if_neg hji] at hj hm
        exact p3 (n+1) e m hj hm
      ·refine Hy (k:=ms.toList) (l:=l) (fun e=>?_) (p4.imp (·.1) (fun h=>h)) hst' (by rw [hml];exact hp) (by simp [hll])
       rw [hml]
       subst e
       rw [acy m2.born p2 h5']
     obtain ⟨q1,q2,q3⟩:=Mk (P:=P) (ms':=ms.eraseIdxIfInBounds j) (c':=clock) hok hy hi hb0 m1 hrel' ⟨hh,hn⟩ hs
     refine ⟨_,_,g,?_,q2,q3,.sc _⟩
     simp [Builtin.delete_,h0,run_underlying hu,zd m1,hck,h6,q1]
   ·rcases Aj m2 hf with ⟨_,h3⟩|⟨i',j,e',mm,l,h3,_⟩
    ·obtain ⟨q1,q2,q3⟩:=Mk (P:=P) (ms':=ms) (c':=clock) hok hy hi hb0 m1 m2 ⟨hh,hn⟩ hs
     refine ⟨_,_,g,?_,q2,q3,.sc _⟩
     simp [Builtin.delete_,h0,run_underlying hu,zd m1,hck,h3,q1]
    ·cases h3
  |_=>cases h
 |_=>cases h
theorem oc.unit {P g st w} [KP P] {s:Sem Unit} {r st'} (h:∃ w' g',s.run P w = .ok () w'∧Step g st.h w st.nx st'.nx g' st'.h w'∧Ok g' st'.h w'∧r = .sc undef):oc P g st w (do s;pure .skip) r st':=by
 obtain ⟨w',g',h1,h2,h3,h4⟩:=h
 exact ⟨.skip,w',g',by simp [h1],h2,h3,.inr ⟨rfl,h4⟩⟩
theorem mn.list {g w ρa ρ} (hρ:mn g w ρa ρ) (l:List Operand):bp g w (l.map ρa) (l.map ρ):=
 ⟨by simp,fun i a v h1 h2=>by
  rw [List.getElem?_map] at h1 h2
  cases hl:l[i]? with
  |none=>rw [hl] at h1;cases h1
  |some x=>rw [hl] at h1 h2;simp at h1 h2;subst h1 h2;exact hρ x⟩
theorem abb {g w ρa ρ} (hρ:mn g w ρa ρ) (parts:Array (Nat × Operand)) :
 (parts.toList.map fun p=>(p.1,ρa p.2)).length=(parts.map fun (i,x)=>(i,ρ x)).toList.length ∧
 ∀ (i:Nat) p q,(parts.toList.map fun p=>(p.1,ρa p.2))[i]? = some p→(parts.map fun (i,x)=>(i,ρ x)).toList[i]? = some q→p.1=q.1∧Rel g w p.2 q.2:=by
 refine ⟨by simp,fun i p q h1 h2=>?_⟩
 rw [List.getElem?_map] at h1
 rw [Array.toList_map,List.getElem?_map] at h2
 cases hl:parts.toList[i]? with
 |none=>rw [hl] at h1;cases h1
 |some x=>rw [hl] at h1 h2;simp at h1 h2;subst h1 h2;exact ⟨rfl,hρ x.2⟩
theorem Xu {g w ρa ρ} (hρ:mn g w ρa ρ) {args:Array Operand} (h:k6 ρa args.toList=true):args.map (fun z=>((ρa z).gn).getD undef)=args.map ρ:=by
 apply Array.ext'
 rw [Array.toList_map,Array.toList_map]
 exact List.map_congr_left fun x hx=>aaz hρ h x hx
theorem aca {P:Program} [KP P] {g:Gh} {st st':St} {w:World} {ρa:Operand→AV} {ρ:Operand→Value} {o:Oper} {r:AV} {c:Call} {b:Builtin} (hc:c.callee = .builtin b) (ho:o.op = .call c) (hok:Ok g st.h w) (hf:me g st st') (hρ:mn g w ρa ρ)
 (h:K7 P ρa o b c.args.toList c.argTypes st=some (r,st')):oc P g st w (execOp ρ o) r st':=by
 have hex:∀ ρ:Operand→Value,execOp ρ o=builtin b c.argTypes o.type (c.args.map fun|.const _=>true|_=>false) (c.args.map ρ):=by
  intro ρ;simp [execOp,ho,resolve,hc,invoke];rfl
 have hargs:∀ l:List Operand,c.args.toList=l→c.args.map ρ=(l.map ρ).toArray:=by
  intro l hl;apply Array.ext';rw [Array.toList_map,hl]
 have pureCase:kg P ρa o c.args.toList st=some (r,st')→oc P g st w (execOp ρ o) r st':=by
  intro h
  by_cases he:k6 ρa c.args.toList=true
  ·exact s9 hok hρ (.inl (by rw [hex,hex,Xu hρ he])) h
  ·exact s9 hok hρ (.inr (by simpa using he)) h
 have one:∀ x,c.args.toList=[x]→c.args.map ρ = #[ρ x]:=fun x hx=>hargs _ hx
 have two:∀ x y,c.args.toList=[x,y]→c.args.map ρ = #[ρ x,ρ y]:=fun x y hx=>hargs _ hx
 generalize hal:c.args.toList=al at h
 unfold K7 at h
 split at h
 ·rename_i x;rw [hex,one _ hal];exact da.value (P:=P) (apg hok (hρ x) h)
 ·rename_i s x;rw [hex,two _ _ hal];exact da.value (P:=P) (ae4 hok hf (hρ s) (hρ x) h)
 ·rename_i d x;rw [hex,two _ _ hal];exact da.value (P:=P) (ao4 hok (hρ d) (hρ x) h)
 ·rename_i m k;rw [hex,two _ _ hal];exact da.value (P:=P) (ad6 hok (hρ m) (hρ k) h)
 ·rename_i x;rw [hex,one _ hal];exact da.value (P:=P) (ap7 hok (hρ x) h)
 ·rename_i x;rw [hex,one _ hal];exact da.value (P:=P) (U2 hok (hρ x) h)
 ·rename_i x y;rw [hex,two _ _ hal];exact da.value (P:=P) (Mr hok (hρ x) (hρ y) h)
 ·rw [← hal] at h;exact pureCase h
 ·rw [← hal] at h;exact pureCase h
 ·cases h
theorem awn {P:Program} [KP P] {g:Gh} {st st':St} {w:World} {ρa:Operand→AV} {ρ:Operand→Value} {o:Oper} {r:AV} (hok:Ok g st.h w) (hf:me g st st') (hρ:mn g w ρa ρ)
 (h:Zy P o ρa st=some (r,st')):oc P g st w (execOp ρ o) r st':=by
 unfold Zy at h
 cases ho:o.op with
 |move x=>
  rw [ho] at h
  obtain ⟨rfl,rfl⟩:=cp h
  exact ⟨_,_,g,by simp [execOp,ho],.refl _ _ _ _ _,hok,.inl ⟨_,rfl,hρ x⟩⟩
 |assign x=>
  rw [ho] at h
  obtain ⟨rfl,rfl⟩:=cp h
  exact ⟨_,_,g,by simp [execOp,ho],.refl _ _ _ _ _,hok,.inl ⟨_,rfl,hρ x⟩⟩
 |load t a=>rw [ho] at h;have:=da.value (P:=P) (al0 hok (hρ a) h);simpa [execOp,ho] using this
 |fieldAddr s x f=>rw [ho] at h;have:=da.value (P:=P) (Uq hok (hρ x) h);simpa [execOp,ho] using this
 |binOp op t x y ck=>
  rw [ho] at h
  exact aqu hok hρ (by simp [execOp,ho]) (fun h1 h2=>by simp [execOp,ho,zg hρ h1,zg hρ h2]) h
 |pick c a b=>rw [ho] at h;have:=da.value (P:=P) (ak3 hok (hρ c) (hρ a) (hρ b) h);simpa [execOp,ho] using this
 |store t a x=>rw [ho] at h;have:=oc.unit (P:=P) (akm hok (hρ a) (hρ x) h);simpa [execOp,ho] using this
 |extract t ix=>rw [ho] at h;have:=da.value (P:=P) (ab6 hok (hρ t) h);simpa [execOp,ho] using this
 |indexAddr t x ix=>rw [ho] at h;have:=da.value (P:=P) (Uv hok (hρ x) (hρ ix) h);simpa [execOp,ho] using this
 |nilCheck x=>rw [ho] at h;exact X1 hok hρ ho h
 |alloc t=>rw [ho] at h;have:=da.value (P:=P) (aj8 hok hf h);simpa [execOp,ho] using this
 |box t x=>rw [ho] at h;have:=da.value (P:=P) (acz hok hf (hρ x) h);simpa [execOp,ho] using this
 |build t parts=>rw [ho] at h;have hp:=abb hρ parts;have:=da.value (P:=P) (aik hok hp.1 hp.2 h);simpa [execOp,ho] using this
 |buildSlice t len parts=>rw [ho] at h;have hp:=abb hρ parts;have:=da.value (P:=P) (Si hok hf hp.1 hp.2 h);simpa [execOp,ho] using this
 |makeSlice t l c=>rw [ho] at h;have:=da.value (P:=P) (Ua hok hf (hρ l) (hρ c) h);simpa [execOp,ho] using this
 |makeMap t ro=>rw [ho] at h;have:=da.value (P:=P) (ab2 (t:=t) (rv:=ro.map ρ) (fun e=>by rw [e];rfl) hok hf h);simpa [execOp,ho] using this
 |makeFunc f first captured=>
  rw [ho] at h
  obtain ⟨rfl,rfl⟩:=cp h
  have h1:=hρ.list first.toList
  have h2:=hρ.list captured.toList
  have:=da.value (P:=P) (da.still hok rfl (s:=Instr.makeFunc f (first.map ρ) (captured.map ρ)) rfl
   (Rel.fn f (first.toList.map ρa) (captured.toList.map ρa) (first.map ρ) (captured.map ρ) (by simp) (fun i a v q1 q2=>h1.2 i a v q1 (by rw [← Array.toList_map,Array.getElem?_toList];exact q2)) (by simp) (fun i a v q1 q2=>h2.2 i a v q1 (by rw [← Array.toList_map,Array.getElem?_toList];exact q2))))
  simpa [execOp,ho] using this
 |convert src dst x=>rw [ho] at h;exact ab7 hok hf hρ ho h
 |makeInterface t x=>rw [ho] at h;have:=da.value (P:=P) (Jl hok (hρ x) h);simpa [execOp,ho] using this
 |field s x f=>rw [ho] at h;have:=da.value (P:=P) (aj0 hok (hρ x) h);simpa [execOp,ho] using this
 |index t x ix=>rw [ho] at h;exact ajl hok hρ ho h
 |slice t x lo hi mx=>
  rw [ho] at h
  have hex:∀ ρ:Operand→Value,execOp ρ o=(do pure (.value (← Instr.sliceAt t (ρ x) (lo.map ρ) (hi.map ρ) (mx.map ρ)))):=by intro ρ;simp [execOp,ho]
  rw [hex]
  refine da.value (P:=P) (ai6 hok hρ ho (fun r' hp=>?_) h)
  by_cases he:k6 ρa (.slice t x lo hi mx:Op).operands.toList=true
  ·have hx:=aaz hρ he
   have hmem:∀ y,(y=x∨lo=some y∨hi=some y∨mx=some y)→((ρa y).gn).getD undef = ρ y:=fun y hy=>hx y (by
    rcases hy with rfl|rfl|rfl|rfl<;>simp [Op.operands])
   have ho':∀ q:Option Operand,(∀ y,q=some y→((ρa y).gn).getD undef = ρ y)→q.map (fun z=>((ρa z).gn).getD undef)=q.map ρ:=by
    intro q hq;cases q with
    |none=>rfl
    |some y=>simp [hq y rfl]
   have heq:execOp (fun z=>((ρa z).gn).getD undef) o=execOp ρ o:=by
    rw [hex,hex,hmem x (.inl rfl),ho' lo (fun y e=>hmem y (.inr (.inl e))),ho' hi (fun y e=>hmem y (.inr (.inr (.inl e)))),ho' mx (fun y e=>hmem y (.inr (.inr (.inr e))))]
   obtain ⟨rfl,h1⟩:=U9 (P:=P) hρ (.inl heq) hp
   rw [hex] at h1
   cases hs:(Instr.sliceAt t (ρ x) (lo.map ρ) (hi.map ρ) (mx.map ρ)).run P w with
   |ok v w'=>
    rcases h1 with ⟨u,h2,rfl⟩|⟨h2,_⟩
    ·simp [hs] at h2
     obtain ⟨rfl,rfl⟩:=h2
     exact da.still hok rfl hs (.sc _)
    ·simp [hs] at h2
   |_=>rcases h1 with ⟨u,h2,_⟩|⟨h2,_⟩<;>simp [hs] at h2
  ·rw [kg,show k6 ρa (.slice t x lo hi mx:Op).operands.toList=false from by simpa using he] at hp
   cases hp
 |lookup t x ix ok=>rw [ho] at h;have:=da.value (P:=P) (aey hok (hρ x) (hρ ix) h);simpa [execOp,ho] using this
 |mapUpdate t m k x=>rw [ho] at h;have:=oc.unit (P:=P) (N2 hok (hρ m) (hρ k) (hρ x) h);simpa [execOp,ho] using this
 |insert t m k x=>rw [ho] at h;have:=oc.unit (P:=P) (N2 hok (hρ m) (hρ k) (hρ x) h);simpa [execOp,ho] using this
 |typeAssert x xT asserted ok=>rw [ho] at h;exact Ql hok hρ ho h
 |unOp op t x=>
  rw [ho] at h
  by_cases he:k6 ρa [x]=true
  ·refine s9 hok hρ (.inl ?_) h
   simp only [k6,List.all_cons,List.all_nil,Bool.and_true] at he
   simp [execOp,ho,zg hρ he]
  ·exact s9 hok hρ (.inr (by simpa using he)) h
 |call c=>
  rw [ho] at h
  obtain ⟨callee,args,argTypes⟩:=c
  cases callee with
  |builtin b=>exact aca rfl ho hok hf hρ h
  |_=>cases h
 |_=>rw [ho] at h;cases h
def g8 (ro:Option Nat):Fence:={ Fence.wide with round:=ro }
theorem Ik {ro ro':Option Nat} {n m:Nat} {P:Program} [KP P] {f:FuncId} {args:Array Value} {w:World} {R:Ending→World→Prop} (h:CallsIn (g8 ro) n P f args w R):CallsIn (g8 ro') m P f args w R:=
 ⟨trivial,fun cs _=>h.2 cs (fun d hd=>by cases hd)⟩
theorem rz {ro:Option Nat} {n:Nat} {P:Program} [KP P] {f:FuncId} {args:Array Value} {w:World} {R:Ending→World→Prop} (h:Calls P f args w R):CallsIn (g8 ro) n P f args w R:=
 Ik (ro:=none) (n:=0) (callsIn_wide.2 h)
theorem wk {ro:Option Nat} {n:Nat} {P:Program} [KP P] {f:FuncId} {args:Array Value} {w:World} {R:Ending→World→Prop} (h:CallsIn (g8 ro) n P f args w R):Calls P f args w R:=
 (callsIn_wide (n:=0)).1 (Ik (ro':=none) h)
theorem put_defers (a:Act) (dst:Option Tmp) (v:Value):(a.put dst v).defers=a.defers:=by cases dst<;>rfl
structure Stp (g:Gh) (st:St) (w:World) (g':Gh) (st':St) (w':World):Prop where
 le:st.nx≤st'.nx
 step:Step g st.h w st.nx st'.nx g' st'.h w'
theorem Bk {α:Type} {m:M α} {s:St} {r : α × St} (h:mono m s=some r):m s=some r∧s.nx≤r.2.nx:=by
 unfold mono at h
 cases hm:m s with
 |none=>rw [hm] at h;cases h
 |some p=>
  obtain ⟨a,s'⟩:=p
  rw [hm] at h
  simp only at h
  cases hb:Nat.ble s.nx s'.nx with
  |false=>rw [hb] at h;cases h
  |true=>rw [hb] at h;cases h;exact ⟨rfl,Nat.le_of_ble_eq_true hb⟩
theorem ajr {P:Program} [KP P] {g st st' w t a v r ad} (hok:Ok g st.h w) (ha:Rel g w a v) (h:po P t a st=some (r,st')) (hv:v = .pointer (some ad)):∃ u,(loadVar t ad).run P w = .ok u w∧Rel g w r u:=by
 unfold po at h
 cases ha with
 |ptr o off b base hi=>
  cases hv
  obtain ⟨x,s1,hx,h⟩:=bind_some h
  obtain ⟨hx,hh,hn⟩:=gb hx
  obtain ⟨b',base',hi',_,hrel⟩:=hok.obj o x hx
  rw [hi] at hi';cases hi'
  cases x with
  |row cells k s et=>
   obtain ⟨hof,_⟩:=pn h
   obtain ⟨cs,fr,h1,h2,h3,_⟩:=hrel
   exact Ca (P:=P) (g:=g) (w:=w) (b:=b) (off:=base+off) (fun j a hj=>by
    rw [List.getElem?_drop] at hj
    obtain ⟨c,hc,hr⟩:=h3 _ a hj
    exact ⟨c,by rw [iy h1,Nat.add_assoc];exact hc,hr⟩) hof
  |map es=>cases h
  |loop=>cases h
 |ft l b off c hc hr=>
  cases hv
  obtain ⟨hof,e⟩:=pn h
  exact Ca (P:=P) (fun j a hj=>⟨c j,(hc j a hj).2,hr j a hj⟩) hof
 |_=>exact (Ws h).elim
def ua (tmps:Array Value) (r:ResultVar):Sem Value:=
 match r with
 |.tmp t=>pure (tmps.getD t undef)
 |.cell a t=>do loadVar t (← asAddr (tmps.getD a undef))
theorem ah9 (fn:Func) (tmps:Array Value):results fn tmps=(do
 let vs ← fn.results.mapM (ua tmps)
 pure (if h:vs.size=1 then vs[0] else .tuple vs)):=rfl
def ia (g:Gh) (h:Tr bh) (b:Nat):Prop:=∀ o base,(h.get o).isSome=true→g.inj o≠some (b,base)
theorem ia.step {g h w lo hi g' h' w' b} (s:Step g h w lo hi g' h' w') (hb:b<w.heap.size) (hu:ia g h b):ia g' h' b∧w'.heap[b]? = w.heap[b]? :=
 ⟨fun o base ho hj=>by
  rcases s.own o b base ho hj with hge|⟨o',base',ho',hj'⟩
  ·omega
  ·exact hu o' base' ho' hj',s.frame b hb hu⟩
def mark (b:Nat):Deferred:={ target:=.collected b,args:=#[] }
def Marks (D:List Deferred) (n0:Nat) (h:Tr bh) (g:Gh) (w:World) (ds:List Deferred):Prop:=
 ∃ bs:List Nat,ds=bs.map mark++D∧bs.Nodup∧∀ b ∈ bs,n0≤b∧w.heap[b]? = some (.deferred (some []))∧ia g h b
theorem Marks.nil (n0 h g w):Marks [] n0 h g w []:=⟨[],rfl,List.nodup_nil,fun b hb=>by cases hb⟩
theorem Marks.start (D:List Deferred) (n0 h g w):Marks D n0 h g w D:=⟨[],rfl,List.nodup_nil,fun b hb=>by cases hb⟩
theorem Marks.step {D n0 g h w lo hi g' h' w' ds} (s:Step g h w lo hi g' h' w') (hm:Marks D n0 h g w ds):Marks D n0 h' g' w' ds:=by
 obtain ⟨bs,h1,h2,h3⟩:=hm
 refine ⟨bs,h1,h2,fun b hb=>?_⟩
 obtain ⟨q1,q2,q3⟩:=h3 b hb
 have:=ia.step s (bt q2) q3
 exact ⟨q1,this.2.trans q2,this.1⟩
theorem Ok.E6 {g h w b} {ds ds':Option (List Deferred)} (hok:Ok g h w) (hb:w.heap[b]? = some (.deferred ds)) (hu:ia g h b):Ok g h (gg w b (.deferred ds'))∧(∀ a v,Rel g w a v→Rel g (gg w b (.deferred ds')) a v):=by
 have hext:Ext g w g (gg w b (.deferred ds')):=by
  refine ⟨rfl,fun _ _ h=>h,fun _ _ h=>h,fun c j hj=>?_,fun c cs e fr hc=>?_,fun c l hc=>?_,fun c cs e fr hc _=>ef w (.deferred ds') (by intro e;subst e;rw [hb] at hc;cases hc)⟩
  ·by_cases e:c=b
   ·subst e
    simp [World.cell?,gp _ (bt hb),hb]
   ·exact nq (ef w (.deferred ds') e)
  ·exact ⟨cs,fr,(ef w (.deferred ds') (by intro e;subst e;rw [hb] at hc;cases hc)).trans hc,rfl⟩
  ·exact ⟨l,(ef w (.deferred ds') (by intro e;subst e;rw [hb] at hc;cases hc)).trans hc⟩
 refine ⟨⟨by rw [lg];exact hok.size,fun o x hx=>?_,hok.sep,fun c j hj=>by rw [lg];exact hok.K c j hj⟩,fun a v h=>h.ext hext⟩
 refine (hok.qi o x hx).imp id ?_
 rintro ⟨c,base,h1,h2,h3⟩
 exact ⟨c,base,h1,h2,h3.ext hext (ef w (.deferred ds') (fun e=>hu o base (by rw [hx];rfl) (by rw [← e];exact h1))) (fun _ h=>h)⟩
theorem Step.ap8 {g0 h0 w0 lo hi g h w b ds'} (hok0:Ok g0 h0 w0) (s:Step g0 h0 w0 lo hi g h w) (hb:w0.heap.size≤b):Step g0 h0 w0 lo hi g h (gg w b (.deferred ds')):=by
 have ne:∀ c,c<w0.heap.size→c≠b:=fun c hc e=>by omega
 refine ⟨⟨s.ext.b0,s.ext.inj,s.ext.K,fun c j hj=>?_,fun c cs e fr hc=>?_,fun c l hc=>?_,fun c cs e fr hc hK=>(ef w _ (ne c (bt hc))).trans (s.ext.whole c cs e fr hc hK)⟩,by rw [lg];exact s.size,s.os,s.tape,s.output,fun c hc hn=>?_,s.fresh,s.own,s.oh⟩
 ·rw [nq (ef w _ (ne c (hok0.K c j hj)))];exact s.ext.cell c j hj
 ·rw [ef w _ (ne c (bt hc))];exact s.ext.rn c cs e fr hc
 ·rw [ef w _ (ne c (bt hc))];exact s.ext.lp c l hc
 ·rw [ef w _ (ne c hc)];exact s.frame c hc hn
def pz:Ex→Exit
 |.normal=>.normal
 |.exit id=>.exit id
 |.ret=>.ret
theorem ur {P:Program} [KP P] {f:Nat} (h:nv P f=true) (args:Array Value) (w:World):(callFunc f args).run P w = .ok (.enter f args) w:=by
 unfold nv at h
 cases hf:P.funcs[f]? with
 |none=>rw [hf] at h;cases h
 |some fn=>
  rw [hf] at h
  simp only [Bool.and_eq_true,Bool.not_eq_true'] at h
  obtain ⟨h1,h2⟩:=h
  have hb:¬ fn.body=none:=by intro e;rw [e] at h1;cases h1
  have hn:¬ fn.name = "runtime.NumGoroutine" := by simpa using h2
  simp [callFunc,program,Sem.run,hf,hn,hb]
theorem Ee {o:Oper} {c:Call} (h:o.op = .call c):∀ d,o.op ≠ .defer d:=by intro d e;rw [h] at e;cases e
theorem lz (ro:Option Nat) (P:Program) (o:Oper) (a:Act) (w:World):∀ f,o.about P w a.eval=some f→(g8 ro).fn f:=fun _ _=>trivial
theorem G9 {P:Program} [KP P] {o:Oper} {f:Operand} {args:Array Operand} {ts:Array TypeId} {ρ:Operand→Value} {h:Nat} {first captured:Array Value} (ho:o.op = .call { callee:=.value f,args,argTypes:=ts })
 (hf : ρ f = .func (.func h) first captured) (w:World):(execOp ρ o).run P w=(callFunc h (first++args.map ρ++captured)).run P w:=by
 simp [execOp,ho,resolve,hf,Deferred.ofValue,invoke]
end Go.Vm
namespace Go.Vm
variable [TK]
noncomputable section
abbrev SL:=List (Nat × AV)
noncomputable def lk (L:SL) (t:Nat):AV:=List.rec (motive:=fun _=>AV) .bad (fun p _ ih=>Bool.rec (motive:=fun _=>AV) ih p.2 (Nat.beq p.1 t)) L
def dt (L:SL) (x:Operand):AV:=
 Operand.rec (motive:=fun _=>AV) (fun t=>lk L t) (fun v=>.sc v) (fun g=>.sc (.pointer (some ⟨g,0,none⟩))) (fun f=>.sc (.func (.func f) #[] #[])) x
abbrev QL:=Ex→SL→St→Prop
def m4 (d:Option Tmp) (v:AV) (L:SL):SL:=
 match d with
 |none=>L
 |some d=>(d,v)::L
abbrev ec:=List (Nat × Bool × (List AV→M AV))
def ec.find:ec→Nat→Option (Bool × (List AV→M AV))
 | [],_=>none
 |(g,m)::r,f=>bif Nat.beq g f then some m else ec.find r f
def tk (T:ec) (f:Nat) (args:List AV):M AV:=
 match T.find f with
 |some (_,m)=>mono (m args)
 |none=>.fail
def ac2 (T:ec) (g:Fn) (args:List AV):M AV:=
 match g with
 |.func g=>tk T g args
 |_=>.fail
def u9 (T:ec) (f:AV) (args:List AV):M AV:=
 match f with
 |.fn g first captured=>ac2 T g (first++args++captured)
 |.sc x=>
  match x with
  |.func g first captured=>ac2 T g (first.toList.map .sc++args++captured.toList.map .sc)
  |_=>.fail
 |_=>.fail
def gx (P:Program) (T:ec) (o:Oper) (ρ:Operand→AV):M AV:=
 match o.op with
 |.call { callee:=.value f,args,.. }=>u9 T (ρ f) (args.toList.map ρ)
 |_=>mono (Zy P o ρ)
def Gm (r:Option (AV × St)) (d:Option Tmp) (L:SL) (K:SL→St→Prop):Prop:=
 match r with
 |some (v,st)=>K (m4 d v L) st
 |none=>False
def o8 (a:AV) (x y:Prop):Prop:=
 match a.bool with
 |some v=>(v=true→x)∧(v=false→y)
 |none=>False
def tj (ops:Array Oper) (j:Nat):Nat:=((ops[j]?).bind (·.dst)).getD 0
def Ej (c:Bool) (v:Value):Bool:=
 match v with
 |.bool b=>b == c
 |_=>false
def Az (a:AV) (c:Bool):Option Bool:=a.exact.map (Ej c)
def zh (o:Option Bool) (x y:Prop):Prop:=
 match o with
 |some b=>(b=true→x)∧(b=false→y)
 |none=>False
def guarded (ops:Array Oper) (L:SL) (gd:Option (Nat × Bool)) (x y:Prop):Prop:=
 match gd with
 |none=>x
 |some (j,c)=>zh (Az (lk L (tj ops j)) c) x y
def ti (a:AV) (X Y:SL→St→Prop) (L:SL) (st:St):Prop:=o8 a (X L st) (Y L st)
def C8 (a:AV) (c:Bool) (X Y:SL→St→Prop) (L:SL) (st:St):Prop:=zh (Az a c) (X L st) (Y L st)
def wi (ops:Array Oper) (gd:Option (Nat × Bool)) (X Y:SL→St→Prop) (L:SL) (st:St):Prop:=guarded ops L gd (X L st) (Y L st)
def Ue (f:AV) (args:List AV):Option (Nat × List AV):=
 match f with
 |.fn g first captured=>
  match g with
  |.func g=>some (g,first++args++captured)
  |_=>none
 |.sc x=>
  match x with
  |.func g first captured=>
   match g with
   |.func g=>some (g,first.toList.map .sc++args++captured.toList.map .sc)
   |_=>none
  |_=>none
 |_=>none
def xo (P:Program) (f:Nat) (args:List AV) (st:St) (R:AV→St→Prop):Prop:=
 ∀ (g:Gh) (w:World) (vs:List Value),Ok g st.h w→(∀ o,st.nx≤o→g.inj o=none)→bp g w args vs →
  (∃ v w' g' r st',(callFunc f vs.toArray).run P w = .ok (.value v) w'∧R r st'∧st.nx≤st'.nx∧Step g st.h w st.nx st'.nx g' st'.h w'∧Ok g' st'.h w'∧Rel g' w' r v) ∨
  ((
   callFunc f vs.toArray).run P w = .ok (.enter f vs.toArray) w ∧
   Calls P f vs.toArray w (fun e w'=>∃ v g' r st',e = .returned v∧R r st'∧st.nx≤st'.nx∧Step g st.h w st.nx st'.nx g' st'.h w'∧Ok g' st'.h w'∧Rel g' w' r v))
def il (K:SL→St→Prop) (d:Option Tmp) (L:SL):AV→St→Prop:=fun r st=>K (m4 d r L) st
def aif (P:Program) (c:Option (Nat × List AV)) (d:Option Tmp) (L:SL) (st:St) (K:SL→St→Prop):Prop:=
 match c with
 |some (f,args)=>xo P f args st (il K d L)
 |none=>False
def Mb (P:Program) (o:Oper) (L:SL) (st:St) (K:SL→St→Prop):Prop:=
 match o.op with
 |.call { callee:=.value f,args,.. }=>aif P (Ue (dt L f) (args.toList.map (dt L))) o.dst L st K
 |_=>False
def Fx (r:Option (AV × St)) (P:Program) (o:Oper) (L:SL) (st:St) (K:SL→St→Prop):Prop:=
 match r with
 |some (v,st')=>K (m4 o.dst v L) st'
 |none=>Mb P o L st K
def T0 (P:Program) (T:ec) (o:Oper) (K:SL→St→Prop) (L:SL) (st:St):Prop:=Fx (gx P T o (dt L) st) P o L st K
def Fw (d:Option Tmp) (K:SL→St→Prop) (L:SL) (st:St):Prop:=K (m4 d (.sc undef) L) st
def opsL (P:Program) (T:ec) (ops:Array Oper):List Oper→(SL→St→Prop)→SL→St→Prop
 | [],K=>K
 |o::r,K=>wi ops o.guard (T0 P T o (opsL P T ops r K)) (Fw o.dst (opsL P T ops r K))
def AV.names:AV→List Nat
 |.agg l=>go l
 |.ga l=>go l
 |.sl o _ _ _=>[o]
 |.ptr o _=>[o]
 |.fn _ a b=>go a++go b
 |.mp o=>[o]
 |.pd _ v=>v.names
 |.yl o=>[o]
 |_=>[]
where go:List AV→List Nat
 | []=>[]
 |a::r=>a.names++go r
def bh.names:bh→List Nat
 |.row cells _ _ _=>AV.names.go cells
 |.map es=>AV.names.go (es.map (·.2))
 |.loop .. => []
def reach (h:Tr bh):Nat→List Nat→List Nat→List Nat
 |0,_,acc=>acc
 |_+1,[],acc=>acc
 |n+1,o::r,acc=>
  bif acc.contains o then reach h n r acc
  else
   match h.get o with
   |some x=>reach h n (x.names++r) (acc++[o])
   |none=>reach h n r acc
def pc (h:Tr bh):List Nat→Tr bh
 | []=>.nil
 |o::r=>Tr.set depth (pc h r) o (h.get o)
def su (h1:Tr bh):List Nat→Tr bh→Tr bh
 | [],h=>h
 |o::r,h=>Tr.set depth (su h1 r h) o (h1.get o)
def dx (lo:Nat):Nat→List Nat
 |0=>[]
 |n+1=>lo::dx (lo+1) n
structure Rec where
 R:List Nat
 W:List Nat
def px (T:ec) (ρ:Operand→AV) (o:Oper):Bool:=
 match o.op with
 |.store .. | .mapUpdate .. | .insert .. => false
 |.call { callee:=.builtin b,.. }=>
  match b with
  |.append|.copy|.delete|.unsafeString=>false
  |_=>true
 |.call { callee:=.value f,.. }=>
  match ρ f with
  |.fn (.func g) _ _=>match T.find g with|some (b,_)=>b|none=>false
  |.sc (.func (.func g) _ _)=>match T.find g with|some (b,_)=>b|none=>false
  |_=>false
 |_=>true
def di (o:Oper) (L:SL):Operand→AV
 |.tmp t=>bif o.op.operands.any (fun x=>match x with|.tmp u=>Nat.beq u t|_=>false) then lk L t else .bad
 |.const v=>.sc v
 |.global g=>.sc (.pointer (some ⟨g,0,none⟩))
 |.func f=>.sc (.func (.func f) #[] #[])
def same (h h':Tr bh):List Nat→Prop
 | []=>True
 |o::r=>h.get o=h'.get o∧same h h' r
def Ad (o:Nat) (l:List Nat):Bool:=List.rec (motive:=fun _=>Bool) false (fun x _ ih=>Bool.rec (motive:=fun _=>Bool) ih true (Nat.beq x o)) l
def qq (a b:List Nat):Bool:=List.rec (motive:=fun _=>Bool) true (fun _ _ _=>List.rec (motive:=fun _=>Bool) true (fun x _ ih=>Bool.rec (motive:=fun _=>Bool) ih false (Ad x b)) a) b
theorem wj (o:Nat):∀ l:List Nat,Ad o l=true↔o ∈ l
 | []=>by simp [Ad]
 |x::l=>by
  show (Bool.rec _ _ (Nat.beq x o):Bool)=true↔_
  have ih:=wj o l
  cases hb:Nat.beq x o with
  |true=>have:=Nat.eq_of_beq_eq_true hb;subst this;simp
  |false=>
   have:x≠o:=fun e=>by subst e;simp at hb
   show Ad o l=true↔_
   rw [ih,List.mem_cons]
   exact ⟨.inr,fun h=>h.resolve_left (fun e=>this e.symm)⟩
theorem aib (a b:List Nat):qq a b=true↔∀ o ∈ a,o ∉ b:=by
 cases b with
 |nil=>simp [qq]
 |cons y b=>
  show (List.rec (motive:=fun _=>Bool) true (fun x _ ih=>Bool.rec (motive:=fun _=>Bool) ih false (Ad x (y::b))) a:Bool)=true↔_
  generalize y::b=l
  induction a with
  |nil=>simp
  |cons x a ih=>
   show (Bool.rec _ _ (Ad x l):Bool)=true↔_
   cases hb:Ad x l with
   |true=>
    have:=(wj x l).1 hb
    simp [this]
   |false=>
    have hn:x ∉ l:=fun h=>by rw [(wj x l).2 h] at hb;cases hb
    show (List.rec _ _ a:Bool)=true↔_
    rw [ih]
    simp [hn]
def G6 (before:Array Nat) (i j:Nat) (a b:Rec):Bool:=(qq a.W b.R && qq a.W b.W && qq a.R b.W) || (before.getD j 0).testBit i
def Lj (before:Array Nat) (i:Nat) (a:Rec):Nat→List Rec→Bool
 |_,[]=>true
 |j,b::r=>G6 before i j a b && Lj before i a (j+1) r
def eu (before:Array Nat):Nat→List Rec→Bool
 |_,[]=>true
 |i,a::r=>Lj before i a (i+1) r && eu before (i+1) r
def yn (ops:Array Oper) (o:Oper):List Nat:=
 o.dst.toList++(o.op.operands.toList.filterMap fun x=>match x with|.tmp u=>some u|_=>none)++(match o.guard with|some (j,_)=>[tj ops j]|none=>[])
def Lf (ops:Array Oper):Bool:=
 ops.toList.zipIdx.all (fun q=>(yn ops q.1).all fun t=>ops.toList.zipIdx.all fun p=>(match p.1.dst with|some d=>!(Nat.beq d t)|none=>true) || Nat.beq p.2 q.2 || ((Region.before ops).getD (max p.2 q.2) 0).testBit (min p.2 q.2)) &&
 ops.toList.zipIdx.all (fun q=>q.1.after.all fun e=>!(Region.binds .any e) || Nat.blt e.on q.2)
def fe:Nat:=60
def jd (o:Op):Bool:=
 match o with
 |.move _=>true
 |.assign _=>true
 |.fieldAddr .. => true
 |.nilCheck _=>true
 |.pick .. => true
 |.extract .. => true
 |.indexAddr .. => true
 |.binOp .. => true
 |.call { callee:=.builtin .len,.. }=>true
 |_=>false
def ln (o:Oper) (L:SL) (st:St):List Nat:=
 bif jd o.op then [] else
 match o.op with
 |.load _ a=>(di o L a).names
 |.store _ a _=>(di o L a).names
 |_=>reach st.h fe (AV.names.go (o.op.operands.toList.map (di o L))) []
def Yr (P:Program) (T:ec) (o:Oper) (recs:List Rec) (K:List Rec→SL→St→Prop) (L:SL) (st:St):Prop:=
 ∃ (F W:List Nat) (v:AV) (ff:St),gx P T o (di o L) { h:=pc st.h F,nx:=st.nx,rl:=[],wl:=[] }=some (v,ff)∧(∀ q ∈ W,q ∈ F)∧(∀ q ∈ F,q ∉ W→(pc st.h F).get q=ff.h.get q)∧(∀ q ∈ F,q<st.nx)∧ff.nx≤dk ∧
  K (recs++[⟨F,W++dx st.nx (ff.nx - st.nx)⟩]) (m4 o.dst v L) { h:=su ff.h (F++dx st.nx (ff.nx - st.nx)) st.h,nx:=ff.nx,rl:=[],wl:=[] }
def Ew (n:Nat):List Nat→Bool
 | []=>true
 |o::r=>Nat.blt o n && Ew n r
def Cz (ro:Bool) (F:List Nat) (o:Oper) (recs:List Rec) (K:List Rec→SL→St→Prop) (L:SL) (st:St) (r:Option (AV × St)):Prop:=
 match r with
 |some (v,ff)=>(Ew st.nx F=true∧Nat.ble ff.nx dk=true)∧same (pc st.h F) ff.h (bif ro then F else []) ∧
  K (recs++[⟨F,(bif ro then [] else F)++dx st.nx (ff.nx - st.nx)⟩]) (m4 o.dst v L) { h:=su ff.h (F++dx st.nx (ff.nx - st.nx)) st.h,nx:=ff.nx,rl:=[],wl:=[] }
 |none=>False
def kh (P:Program) (T:ec) (o:Oper) (recs:List Rec) (K:List Rec→SL→St→Prop) (L:SL) (st:St) (F:List Nat):Prop:=
 Cz (px T (di o L) o) F o recs K L st (gx P T o (di o L) { h:=pc st.h F,nx:=st.nx,rl:=[],wl:=[] })
def fv (P:Program) (T:ec) (o:Oper) (recs:List Rec) (K:List Rec→SL→St→Prop) (L:SL) (st:St):Prop:=kh P T o recs K L st (ln o L st)
theorem aa3 {n:Nat}:∀ {l:List Nat},Ew n l=true→∀ q ∈ l,q<n
 | [],_,q,hq=>by cases hq
 |o::r,h,q,hq=>by
  simp only [Ew,Bool.and_eq_true] at h
  rcases List.mem_cons.1 hq with rfl|hq
  ·simpa using h.1
  ·exact aa3 h.2 q hq
theorem ahg {h h':Tr bh}:∀ {l:List Nat},same h h' l→∀ q ∈ l,h.get q=h'.get q
 | [],_,q,hq=>by cases hq
 |o::r,hs,q,hq=>by
  rcases List.mem_cons.1 hq with rfl|hq
  ·exact hs.1
  ·exact ahg hs.2 q hq
theorem aui {P:Program} {T:ec} {o:Oper} {recs:List Rec} {K:List Rec→SL→St→Prop} {L:SL} {st:St} (h:fv P T o recs K L st):Yr P T o recs K L st:=by
 unfold fv kh Cz at h
 split at h
 ·rename_i v ff he
  obtain ⟨⟨h1,h2⟩,h3,h4⟩:=h
  refine ⟨_,_,v,ff,he,?_,?_,aa3 h1,Nat.le_of_ble_eq_true h2,h4⟩
  ·intro q hq
   cases hb:px T (di o L) o with
   |true=>rw [hb] at hq;cases hq
   |false=>rw [hb] at hq;exact hq
  ·intro q hq hn
   cases hb:px T (di o L) o with
   |true=>rw [hb] at h3;exact ahg h3 q hq
   |false=>rw [hb] at hn;exact (hn hq).elim
 ·exact h.elim
def alc (ops:Array Oper) (K:SL→St→Prop) (recs:List Rec) (L:SL) (st:St):Prop:=eu (Region.before ops) 0 recs=true∧K L st
def Dh (P:Program) (T:ec) (ops:Array Oper):List Oper→(SL→St→Prop)→List Rec→SL→St→Prop
 | [],K=>alc ops K
 |o::r,K=>fun recs=>wi ops o.guard (fv P T o recs (Dh P T ops r K)) (Fw o.dst (Dh P T ops r K (recs++[⟨[],[]⟩])))
def Kh (P:Program) (T:ec) (ops:Array Oper):List Oper→(SL→St→Prop)→List Rec→SL→St→Prop
 | [],K=>alc ops K
 |o::r,K=>fun recs=>wi ops o.guard (Yr P T o recs (Kh P T ops r K)) (Fw o.dst (Kh P T ops r K (recs++[⟨[],[]⟩])))
def Ct (P:Program) (T:ec) (ops:Array Oper) (draw:Bool) (K:SL→St→Prop) (L:SL) (st:St):Prop:=
 match draw with
 |true=>Lf ops=true∧(Dh P T ops ops.toList K [] L st∨Kh P T ops ops.toList K [] L st)
 |false=>opsL P T ops ops.toList K L st
def idx (l:List Nat) (o:Nat):Nat→Option Nat:=
 List.rec (motive:=fun _=>Nat→Option Nat) (fun _=>none) (fun a _ ih i=>bif Nat.beq a o then some i else ih (i+1)) l
def AV.dr (τ:Nat→Option Nat):AV→AV
 |.agg l=>.agg (go τ l)
 |.ga l=>.ga (go τ l)
 |.vl loc sz es=>.vl loc sz (go τ es)
 |.sl o off len sz=>match τ o with|some p=>.sl p off len sz|none=>.bad
 |.ptr o off=>match τ o with|some p=>.ptr p off|none=>.bad
 |.ft l=>.ft (go τ l)
 |.fn f a b=>.fn f (go τ a) (go τ b)
 |.mp o=>match τ o with|some p=>.mp p|none=>.bad
 |.pd t v=>.pd t (v.dr τ)
 |.yl _=>.bad
 |a=>a
where go (τ:Nat→Option Nat):List AV→List AV
 | []=>[]
 |a::r=>a.dr τ::go τ r
def bh.dr (τ:Nat→Option Nat):bh→Option bh
 |.row cells k s e=>some (.row (AV.dr.go τ cells) k s e)
 |.map es=>some (.map (es.map fun e=>(e.1,e.2.dr τ)))
 |.loop .. => none
def mz (h:Tr bh):List Nat→List Nat
 | []=>[]
 |o::r=>(match h.get o with|some x=>x.names|none=>[])++mz h r
def gj (aw:Nat) (keep:List Nat) (L:SL) (st:St):List Nat:=reach st.h fe (AV.names.go (keep.map (lk L))++mz st.h (dx 0 aw)) (dx 0 aw)
def gi (aw:Nat) (keep:List Nat) (L:SL) (st:St):List AV:=AV.dr.go (fun o=>idx (gj aw keep L st) o 0) (keep.map (lk L))
def ju (h:Tr bh) (τ:Nat→Option Nat):List Nat→List (Option bh)
 | []=>[]
 |o::r=>(h.get o).bind (bh.dr τ)::ju h τ r
def ep (aw:Nat) (keep:List Nat) (L:SL) (st:St):List (Option bh):=ju st.h (fun o=>idx (gj aw keep L st) o 0) (gj aw keep L st)
def l5:Nat→List (Option bh)→Tr bh
 |_,[]=>.nil
 |i,x::r=>Tr.set depth (l5 (i+1) r) i x
def bk (os:List (Option bh)):St:={ h:=l5 0 os,nx:=os.length,rl:=[],wl:=[] }
def gu:List Nat→List AV→SL
 |t::ts,v::vs=>(t,v)::gu ts vs
 |_,_=>[]
def uq (aw:Nat) (keep:List Nat) (X:List AV→List (Option bh)→Prop) (Q:QL):QL:=fun e L st=>
 match e with
 |.normal=>X (gi aw keep L st) (ep aw keep L st)
 |e=>Q e L st
def ir (aw:Nat) (vs:List AV) (os:List (Option bh)) (vs':List AV) (os':List (Option bh)):Prop:=
 vs'.length=vs.length∧(aw≤os.length→aw≤os'.length)∧∀ (g:Gh) (w:World) (us:List Value),Ok g (bk os).h w→(∀ o,os.length≤o→g.inj o=none)→bp g w vs us→∃ g',Ok g' (bk os').h w∧bp g' w vs' us∧g'.b0=g.b0∧(∀ o,os'.length≤o→g'.inj o=none)∧(∀ o,o<aw→g'.inj o=g.inj o)∧(∀ b j,g.K b j→g'.K b j) ∧
  (∀ o b base,((bk os').h.get o).isSome=true→g'.inj o=some (b,base)→∃ o2 base2,((bk os).h.get o2).isSome=true∧g.inj o2=some (b,base2))∧(∀ b j,g'.K b j→g.K b j∨∃ o base,((bk os).h.get o).isSome=true∧g.inj o=some (b,base))
theorem ir.refl (aw vs os):ir aw vs os vs os:=⟨rfl,id,fun g _ _ h1 hf h2=>⟨g,h1,h2,rfl,hf,fun _ _=>rfl,fun _ _ h=>h,fun o b base h h'=>⟨o,base,h,h'⟩,fun _ _ h=>.inl h⟩⟩
theorem ir.trans {aw vs os vs' os' vs'' os''} (h:ir aw vs os vs' os') (k:ir aw vs' os' vs'' os''):ir aw vs os vs'' os'':=by
 refine ⟨k.1.trans h.1,fun q=>k.2.1 (h.2.1 q),fun g w us h1 hf h2=>?_⟩
 obtain ⟨g1,a1,a2,a3,a4,a5,a6,a7,a8⟩:=h.2.2 g w us h1 hf h2
 obtain ⟨g2,b1,b2,b3,b4,b5,b6,b7,b8⟩:=k.2.2 g1 w us a1 a4 a2
 refine ⟨g2,b1,b2,b3.trans a3,b4,fun o ho=>(b5 o ho).trans (a5 o ho),fun b j q=>b6 b j (a6 b j q),fun o b base q q'=>?_,fun b j q=>?_⟩
 ·obtain ⟨o2,base2,c1,c2⟩:=b7 o b base q q'
  exact a7 o2 b base2 c1 c2
 ·rcases b8 b j q with c|⟨o,base,c1,c2⟩
  ·exact a8 b j c
  ·exact .inr (a7 o b base c1 c2)
def upW (aw:Nat) (X:List AV→List (Option bh)→Prop) (vs:List AV) (os:List (Option bh)):Prop:=∃ vs' os',ir aw vs os vs' os'∧X vs' os'
def qo (aw:Nat) (B:QL→SL→St→Prop) (Q:QL) (L:SL) (st:St):Prop:=
 ∃ keep:List Nat,∀ X:List AV→List (Option bh)→Prop,(∀ vs os,B (uq aw keep (upW aw X) Q) (gu keep vs) (bk os)→X vs os)→upW aw X (gi aw keep L st) (ep aw keep L st)
def Fb (W:QL→SL→St→Prop) (Q:QL):QL:=fun e L st=>
 match e with
 |.normal=>W Q L st
 |e=>Q e L st
def Hh (id:Nat) (Q:QL):QL:=fun e L st=>
 match e with
 |.exit j=>bif Nat.beq j id then Q .normal L st else Q (.exit j) L st
 |e=>Q e L st
def cd:Nat→List AV→SL
 |_,[]=>[]
 |i,a::r=>(i,a)::cd (i+1) r
abbrev QI:=Ex→Option Ex→SL→St→Prop
abbrev Gp:=Nat→List AV→(Ex→St→Prop)→St→Prop
def zu (l:Nat) (a:AV):Bool:=
 match a with
 |.sc v=>
  match v with
  |.func f va vb=>
   match f with
   |.yield k=>Nat.beq k l && Nat.beq va.size 0 && Nat.beq vb.size 0
   |_=>false
  |_=>false
 |_=>false
def yieldOf (l:Nat) (o:Oper) (L:SL):Option (Array Operand):=
 match o.op with
 |.call { callee:=.value f,args,.. }=>bif zu l (dt L f) then some args else none
 |_=>none
def aba (d:Option Tmp) (L:SL) (K:Option Ex→SL→St→Prop) (e:Ex) (st:St):Prop:=
 match e with
 |.normal=>K none (m4 d (.sc (.bool true)) L) st
 |e=>K (some e) (m4 d (.sc (.bool false)) L) st
def vm (R:Gp) (p:Nat) (args:Array Operand) (d:Option Tmp) (K:Option Ex→SL→St→Prop) (L:SL) (st:St):Prop:=
 R p (args.toList.map (dt L)) (aba d L K) st
def T9 (P:Program) (T:ec) (R:Gp) (aw:Nat) (o:Oper) (K:Option Ex→SL→St→Prop) (pe:Option Ex) (L:SL) (st:St) (y:Option (Array Operand)):Prop:=
 match y with
 |none=>Gm (gx P T o (dt L) st) o.dst L (K pe)
 |some args=>pe=none∧∃ keep:List Nat,vm R (ep aw keep L st).length args o.dst K (gu keep (gi aw keep L st)) (bk (ep aw keep L st))
def opI (P:Program) (T:ec) (l:Nat) (R:Gp) (aw:Nat) (o:Oper) (K:Option Ex→SL→St→Prop) (pe:Option Ex) (L:SL) (st:St):Prop:=T9 P T R aw o K pe L st (yieldOf l o L)
def adh (a:AV) (c:Bool) (X Y:Option Ex→SL→St→Prop) (pe:Option Ex) (L:SL) (st:St):Prop:=zh (Az a c) (X pe L st) (Y pe L st)
def G4 (ops:Array Oper) (gd:Option (Nat × Bool)) (X Y:Option Ex→SL→St→Prop) (pe:Option Ex) (L:SL) (st:St):Prop:=guarded ops L gd (X pe L st) (Y pe L st)
def A3 (a:AV) (X Y:Option Ex→SL→St→Prop) (pe:Option Ex) (L:SL) (st:St):Prop:=o8 a (X pe L st) (Y pe L st)
def U1 (d:Option Tmp) (K:Option Ex→SL→St→Prop) (pe:Option Ex) (L:SL) (st:St):Prop:=K pe (m4 d (.sc undef) L) st
def Dw (P:Program) (T:ec) (l:Nat) (R:Gp) (aw:Nat) (ops:Array Oper):List Oper→(Option Ex→SL→St→Prop)→Option Ex→SL→St→Prop
 | [],K=>K
 |o::r,K=>G4 ops o.guard (opI P T l R aw o (Dw P T l R aw ops r K)) (U1 o.dst (Dw P T l R aw ops r K))
def aa1 (W:QI→Option Ex→SL→St→Prop) (Q:QI):QI:=fun e pe L st=>
 match e with
 |.normal=>W Q pe L st
 |e=>Q e pe L st
def Ow (id:Nat) (Q:QI):QI:=fun e pe L st=>
 match e with
 |.exit j=>bif Nat.beq j id then Q .normal pe L st else Q (.exit j) pe L st
 |e=>Q e pe L st
def x7 (Q':QL) (Q:QI):QI:=fun e pe L st=>
 match e with
 |.normal=>pe=none∧Q' .normal L st
 |e=>Q e pe L st
def oa (P:Program) (T:ec) (l:Nat) (R:Gp) (aw:Nat):Code→QI→Option Ex→SL→St→Prop
 |.skip,Q,pe,L,st=>Q .normal pe L st
 |.label _,Q,pe,L,st=>Q .normal pe L st
 |.region _ ops false,Q,pe,L,st=>Dw P T l R aw ops ops.toList (Q .normal) pe L st
 |.region _ ops true,Q,pe,L,st=>Ct P T ops true (Q .normal pe) L st
 |.seq a b,Q,pe,L,st=>oa P T l R aw a (aa1 (oa P T l R aw b) Q) pe L st
 |.cond c a b,Q,pe,L,st=>A3 (dt L c) (oa P T l R aw a Q) (oa P T l R aw b Q) pe L st
 |.block id b,Q,pe,L,st=>oa P T l R aw b (Ow id Q) pe L st
 |.loop b,Q,pe,L,st=>pe=none∧qo aw (fun Q' L st=>oa P T l R aw b (x7 Q' Q) none L st) (fun _ _ _=>False) L st
 |.exit id,Q,pe,L,st=>Q (.exit id) pe L st
 |.ret,Q,pe,L,st=>Q .ret pe L st
 |_,_,_,_,_=>False
structure NT where
 n:Nat
 fix:List (Nat × Value):=[]
instance:Coe Nat NT:=⟨fun n=>{ n }⟩
def NT.has (nt:NT) (t:Nat):Bool:=Nat.blt t nt.n && nt.fix.all fun p=>!Nat.beq p.1 t
def tw (nt:NT) (ops:Array Oper):Bool:=ops.all fun o=>match o.guard with
 |none=>true
 |some (j,_)=>match (ops[j]?).bind (·.dst) with|some d=>Nat.blt d nt.n|none=>false
def Be (nt:NT) (ops:Array Oper):Bool:=ops.all fun o=>match o.dst with|none=>true|some d=>nt.has d
def _root_.Go.Code.qw:Code→Bool
 |.seq a b=>a.qw && b.qw
 |.cond _ a b=>a.qw && b.qw
 |.block _ b=>b.qw
 |.loop b=>b.qw
 |.scope b=>b.qw
 |.rangeFunc .. => false
 |_=>true
def du (nt:NT):Code→Bool
 |.region _ ops _=>Be nt ops && tw nt ops
 |.seq a b=>du nt a && du nt b
 |.cond _ a b=>du nt a && du nt b
 |.block _ b=>du nt b
 |.loop b=>du nt b
 |.scope b=>du nt b
 |.rangeFunc _ ps a b=>ps.all (fun t=>nt.has t) && du nt a && du nt b && a.qw && b.qw
 |_=>true
def F7 (a:AV):Option (Nat × List AV):=
 match a with
 |.fn f first captured=>
  match f,first with
  |.func g,[]=>some (g,captured)
  |_,_=>none
 |.sc v=>
  match v with
  |.func f first captured=>
   match f,first.toList with
   |.func g,[]=>some (g,captured.toList.map .sc)
   |_,_=>none
  |_=>none
 |_=>none
def xq (P:Program) (g:Nat):Option (Nat × Code):=
 match P.funcs[g]? with
 |some fn=>
  match fn.body with
  |some body=>bif nv P g && du fn.ntmps body && fn.results.isEmpty then some (fn.ntmps,body) else none
  |none=>none
 |none=>none
def Af:List Tmp→List AV→SL→SL
 |t::ts,v::vs,L=>Af ts vs ((t,v)::L)
 |_,_,L=>L
def arz (B:QL→SL→St→Prop) (X:Ex→St→Prop):QL:=fun e L st=>
 match e with
 |.normal=>B (fun e _ st=>X e st) L st
 |_=>False
def mb (ps:List Tmp) (A B:Nat→QL→SL→St→Prop) (L0:SL):Gp:=fun p args X st=>
 Nat.beq args.length ps.length=true∧Nat.ble p 1000=true∧A p (arz (B p) X) (Af ps args L0) st
def Zf (Q:QL) (L0:SL):QI:=fun e pe _ st=>
 match e with
 |.exit _=>False
 |_=>
  match pe with
  |none=>Q .normal L0 st
  |some e=>Q e L0 st
def Jm (P:Program) (T:ec) (ps:List Tmp) (A B:Nat→QL→SL→St→Prop) (p:Nat) (Q:QL) (L0:SL) (st0:St) (caps:List AV) (c:Option (Nat × Code)):Prop:=
 match c with
 |some (nt,code)=>Nat.ble (caps.length+1) nt=true∧∀ l:Nat,oa P T l (mb ps A B L0) p code (Zf Q L0) none (cd 0 (.sc (.func (.yield l) #[] #[])::caps)) st0
 |none=>False
def Ja (P:Program) (T:ec) (ps:List Tmp) (A B:Nat→QL→SL→St→Prop) (p:Nat) (Q:QL) (L0:SL) (st0:St) (f:Option (Nat × List AV)):Prop:=
 match f with
 |some (g,caps)=>Jm P T ps A B p Q L0 st0 caps (xq P g)
 |none=>False
def alv (P:Program) (T:ec) (f:Operand) (ps:List Tmp) (A B:Nat→QL→SL→St→Prop) (p:Nat) (Q:QL) (L0:SL) (st0:St):Prop:=
 Nat.ble p 1000=true∧Ja P T ps A B p Q L0 st0 (F7 (dt L0 f))
def an8 (P:Program) (T:ec) (f:Operand) (ps:List Tmp) (A B:Nat→QL→SL→St→Prop) (aw:Nat) (Q:QL) (L:SL) (st:St):Prop:=
 ∃ keep:List Nat,alv P T f ps A B (ep aw keep L st).length Q (gu keep (gi aw keep L st)) (bk (ep aw keep L st))
def wl (P:Program) (T:ec):Nat→Code→QL→SL→St→Prop
 |_,.skip,Q,L,st=>Q .normal L st
 |_,.label _,Q,L,st=>Q .normal L st
 |_,.region _ ops draw,Q,L,st=>Ct P T ops draw (Q .normal) L st
 |aw,.seq a b,Q,L,st=>wl P T aw a (Fb (wl P T aw b) Q) L st
 |aw,.cond c a b,Q,L,st=>ti (dt L c) (wl P T aw a Q) (wl P T aw b Q) L st
 |aw,.block id body,Q,L,st=>wl P T aw body (Hh id Q) L st
 |aw,.loop body,Q,L,st=>qo aw (wl P T aw body) Q L st
 |aw,.scope body,Q,L,st=>wl P T aw body Q L st
 |_,.exit id,Q,L,st=>Q (.exit id) L st
 |_,.ret,Q,L,st=>Q .ret L st
 |aw,.rangeFunc f ps asg body,Q,L,st=>an8 P T f ps.toList (fun p=>wl P T p asg) (fun p=>wl P T p body) aw Q L st
 |_,_,_,_,_=>False
def ri (P:Program) (L:SL) (st:St):List ResultVar→Option (List AV)
 | []=>some []
 |.tmp t::r=>(ri P L st r).map (lk L t :: ·)
 |.cell a t::r=>
  match po P t (lk L a) st with
  |some (v,_)=>(ri P L st r).map (v :: ·)
  |none=>none
def E8 (r:Option (List AV)) (R:AV→St→Prop) (st:St):Prop:=
 match r with
 |some l=>R (pack l) st
 |none=>False
def db (P:Program) (rs:List ResultVar) (R:AV→St→Prop):QL:=fun e L st=>
 match e with
 |.exit _=>False
 |_=>E8 (ri P L st rs) R st
def AV.fresh:AV→Bool
 |.sc _=>true
 |.agg l=>go l
 |.ga l=>go l
 |.vl loc _ es=>loc && go es
 |.fn _ a b=>go a && go b
 |.pd _ v=>v.fresh
 |.ez=>true
 |_=>false
where go:List AV→Bool
 | []=>true
 |a::r=>a.fresh && go r
structure r9 (nt:NT) (tmps:Array Value):Prop where
 size:tmps.size=nt.n
 fix:∀ p ∈ nt.fix,tmps.getD p.1 undef=p.2
theorem NT.Ks {nt:NT} {t:Nat} (h:nt.has t=true):t<nt.n∧∀ p ∈ nt.fix,p.1≠t:=by
 unfold NT.has at h
 rw [Bool.and_eq_true] at h
 refine ⟨Nat.le_of_ble_eq_true h.1,fun p hp e=>?_⟩
 have:=List.all_eq_true.1 h.2 p hp
 rw [e] at this
 simp at this
theorem r9.set {nt:NT} {tmps:Array Value} (h:r9 nt tmps) {t:Nat} {u:Value} (ht:nt.has t=true):r9 nt (tmps.setIfInBounds t u):=by
 obtain ⟨h1,h2⟩:=NT.Ks ht
 refine ⟨by simp [h.size],fun p hp=>?_⟩
 rw [Array.getD_eq_getD_getElem?,Array.getElem?_setIfInBounds,if_neg (fun e=>h2 p hp e.symm),← Array.getD_eq_getD_getElem?]
 exact h.fix p hp
theorem r9.put {nt:NT} {a:Act} {dst:Option Tmp} {u:Value} (h:r9 nt a.tmps) (hd:∀ d,dst=some d→nt.has d=true):r9 nt (a.put dst u).tmps:=by
 cases dst with
 |none=>exact h
 |some d=>exact h.set (hd d rfl)
def gv (g:Gh) (w:World) (nt:NT) (L:SL) (tmps:Array Value):Prop:=r9 nt tmps∧∀ t,Rel g w (lk L t) (tmps.getD t undef)
theorem gv.ext {g w g' w'} (hx:Ext g w g' w') {nt L tmps} (h:gv g w nt L tmps):gv g' w' nt L tmps:=⟨h.1,fun t=>(h.2 t).ext hx⟩
theorem gv.eval {g w nt L} {a:Act} (h:gv g w nt L a.tmps):mn g w (dt L) a.eval:=by
 intro x
 cases x with
 |tmp t=>exact h.2 t
 |const v=>exact .sc v
 |global g'=>exact .sc _
 |func f=>exact .sc _
theorem s7 (d t:Nat) (v:AV) (r:SL):lk ((d,v)::r) t=if d=t then v else lk r t:=by
 show (Bool.rec (motive:=fun _=>AV) (lk r t) v (Nat.beq d t))=_
 by_cases h:d=t
 ·subst h;rw [Nat.beq_refl,if_pos rfl]
 ·rw [if_neg h,n8 h]
theorem gv.put {g w nt L} {a:Act} {dst:Option Tmp} {v:AV} {u:Value} (h:gv g w nt L a.tmps) (hv:Rel g w v u) (hd:∀ d,dst=some d→nt.has d=true):gv g w nt (m4 dst v L) (a.put dst u).tmps:=by
 cases dst with
 |none=>exact h
 |some d=>
  have hd:=hd d rfl
  refine ⟨h.1.set hd,fun t=>?_⟩
  simp only [m4,s7,Act.put,Array.getD_eq_getD_getElem?,Array.getElem?_setIfInBounds]
  by_cases e:d=t
  ·subst e;rw [if_pos rfl,if_pos rfl,if_pos (by rw [h.1.size];exact (NT.Ks hd).1)];exact hv
  ·rw [if_neg e,if_neg e,← Array.getD_eq_getD_getElem?];exact h.2 t
structure fj where
 b0:Nat
 w:World
 K:Nat→Nat→Prop
 O:Nat→Prop
 aw:Nat
 pb:Nat→Option (Nat × Nat)
 far:Nat→Prop:=fun _=>False
 n0:Nat
 D:List Deferred:=[]
structure qg (B:fj) (g:Gh) (h:Tr bh) (w:World):Prop where
 b0:g.b0=B.b0
 pins:∀ o,(o<B.aw∨B.far o)→g.inj o=B.pb o
 K:∀ b j,B.K b j→g.K b j
 cell:∀ b j,B.K b j→w.cell? ⟨b,j,none⟩=B.w.cell? ⟨b,j,none⟩
 size:B.w.heap.size≤w.heap.size
 os:w.os=B.w.os
 tape:w.tape=B.w.tape
 output:w.output=B.w.output
 frame:∀ b,b<B.w.heap.size→¬ B.O b→w.heap[b]? = B.w.heap[b]?
 own:∀ o b base,(h.get o).isSome=true→g.inj o=some (b,base)→B.w.heap.size≤b∨B.O b
 oh:∀ b j,g.K b j→B.K b j∨B.w.heap.size≤b∨B.O b
 rn:∀ (b:Nat) (cs:Array Value) (e:TypeId) (fr:Nat × Nat),B.w.heap[b]? = some (Obj.cells cs e fr)→∃ (cs':Array Value) (fr':Nat × Nat),w.heap[b]? = some (Obj.cells cs' e fr')∧cs'.size=cs.size
 lp:∀ (b:Nat) (l:Loop),B.w.heap[b]? = some (Obj.loop l)→∃ l',w.heap[b]? = some (Obj.loop l')
 whole:∀ (b:Nat) (cs:Array Value) (e:TypeId) (fr:Nat × Nat),B.w.heap[b]? = some (Obj.cells cs e fr)→(∀ j,B.K b j)→w.heap[b]? = B.w.heap[b]?
structure jh (B:fj) (g:Gh) (st:St) (w:World):Prop where
 ok:Ok g st.h w
 fresh:∀ o,st.nx≤o→¬ B.far o→g.inj o=none
 base:qg B g st.h w
 aw:B.aw≤st.nx
def fj.ah2 (B:fj) (n n':Nat):Prop:=∀ o,n≤o→o<n'→¬ B.far o
def fj.lr (B:fj):Prop:=∀ o,¬ B.far o
theorem fj.lr.Fl {B:fj} (h:B.lr) (n n':Nat):B.ah2 n n':=fun o _ _=>h o
theorem jh.free {B g st st' w} (h:jh B g st w) (hn:B.ah2 st.nx st'.nx):me g st st':=fun o h1 h2=>h.fresh o h1 (hn o h1 h2)
theorem jh.step {B g st w g' st' w'} (h:jh B g st w) (hn:B.ah2 st.nx st'.nx) (s:Stp g st w g' st' w') (hok:Ok g' st'.h w'):jh B g' st' w':=by
 refine ⟨hok,fun o h1 h2=>s.step.fresh o (h.fresh o (Nat.le_trans s.le h1) h2) (by omega),?_,Nat.le_trans h.aw s.le⟩
 have b:=h.base
 have t:=s.step
 refine ⟨t.ext.b0.trans b.b0,fun o ho=>?_,fun c j hc=>t.ext.K c j (b.K c j hc),fun c j hc=>(t.ext.cell c j (b.K c j hc)).trans (b.cell c j hc),Nat.le_trans b.size t.size,t.os.trans b.os,t.tape.trans b.tape,t.output.trans b.output,fun c hc hO=>?_,fun o c base ho hi=>?_,fun c j hc=>?_,fun c cs e fr h=>?_,fun c l h=>?_,fun c cs e fr h hK=>(t.ext.whole c cs e fr ((b.whole c cs e fr h hK).trans h) (fun j=>b.K c j (hK j))).trans (b.whole c cs e fr h hK)⟩
 ·have h1:=b.pins o ho
  have h2:=h.aw
  cases hp:B.pb o with
  |none=>
   rw [hp] at h1
   refine t.fresh o h1 (fun hr=>?_)
   rcases ho with ho|ho
   ·omega
   ·exact hn o hr.1 hr.2 ho
  |some p=>rw [hp] at h1;exact t.ext.inj o p h1
 ·rw [t.frame c (Nat.lt_of_lt_of_le hc b.size) (fun o base ho hi=>?_)]
  ·exact b.frame c hc hO
  ·rcases b.own o c base ho hi with h1|h1
   ·omega
   ·exact hO h1
 ·rcases t.own o c base ho hi with h1|⟨o',base',h1,h2⟩
  ·exact .inl (Nat.le_trans b.size h1)
  ·exact b.own o' c base' h1 h2
 ·rcases t.oh c j hc with h1|h1|⟨o',base',h1,h2⟩
  ·exact b.oh c j h1
  ·exact .inr (.inl (Nat.le_trans b.size h1))
  ·exact .inr (b.own o' c base' h1 h2)
 ·obtain ⟨cs1,fr1,h1,h2⟩:=b.rn c cs e fr h
  obtain ⟨cs2,fr2,h3,h4⟩:=t.ext.rn c cs1 e fr1 h1
  exact ⟨cs2,fr2,h3,h4.trans h2⟩
 ·obtain ⟨l1,h1⟩:=b.lp c l h
  exact t.ext.lp c l1 h1
theorem jh.drawn {B g st w} (h:jh B g st w):jh B g st { w with drawn:=w.drawn+1 }:=
 h.step (fun o h1 h2=>by omega) ⟨Nat.le_refl _,Step.same (w:=w) rfl rfl rfl rfl⟩ (Ok.same (w:=w) rfl h.ok)
def Fin (B:fj) (nt:NT) (Q:QL):Exit→Act→World→Prop:=fun ex a w=>
 ∃ e L st g,ex=pz e∧Q e L st∧jh B g st w∧gv g w nt L a.tmps∧Marks B.D B.n0 st.h g w a.defers
theorem Fin.mk' {B nt Q e L st g} {a:Act} {w:World} (hq:Q e L st) (hc:jh B g st w) (hr:gv g w nt L a.tmps) (hd:Marks B.D B.n0 st.h g w a.defers):Fin B nt Q (pz e) a w:=⟨e,L,st,g,rfl,hq,hc,hr,hd⟩
def Cw (P:Program) (o:Oper) (a:Act) (w:World) (T:Value→World→Prop):Prop:=
 ∀ (ro:Option Nat) (N:Nat) (K:Act→World→Prop) (Q:Exit→Act→World→Prop),(∀ v w',T v w'→K (a.put o.dst v) w')→o.wpIn (g8 ro) N P a w K Q
def Low (st:St):Prop:=∀ o x,st.h.get o=some x→o<st.nx
def Yp (P:Program) (f:Nat) (args:List AV) (m:M AV):Prop:=
 ∀ (g:Gh) (st:St) (w:World) (vs:List Value) (r:AV) (st':St),Ok g st.h w→me g st st'→Low st→bp g w args vs→m st=some (r,st') →
  (∃ v w' g',(callFunc f vs.toArray).run P w = .ok (.value v) w'∧Step g st.h w st.nx st'.nx g' st'.h w'∧Ok g' st'.h w'∧Rel g' w' r v) ∨
  ((
   callFunc f vs.toArray).run P w = .ok (.enter f vs.toArray) w ∧
   Calls P f vs.toArray w (fun e w'=>∃ v g',e = .returned v∧Step g st.h w st.nx st'.nx g' st'.h w'∧Ok g' st'.h w'∧Rel g' w' r v))
def Cf (P:Program) (f:Nat) (args:List AV) (m:M AV):Prop:=
 ∀ (g:Gh) (st:St) (w:World) (vs:List Value) (r:AV) (st':St),Ok g st.h w→me g st st'→bp g w args vs→m st=some (r,st') →
  (∃ v w' g',(callFunc f vs.toArray).run P w = .ok (.value v) w'∧Step g st.h w st.nx st'.nx g' st'.h w'∧Ok g' st'.h w'∧Rel g' w' r v) ∨
  ((
   callFunc f vs.toArray).run P w = .ok (.enter f vs.toArray) w ∧
   Calls P f vs.toArray w (fun e w'=>∃ v g',e = .returned v∧Step g st.h w st.nx st'.nx g' st'.h w'∧Ok g' st'.h w'∧Rel g' w' r v))
theorem Cf.toF {P:Program} [KP P] {f:Nat} {args:List AV} {m:M AV} (h:Cf P f args m):Yp P f args m:=fun g st w vs r st' h1 h2 _ h3 h4=>h g st w vs r st' h1 h2 h3 h4
def ak (P:Program) (T:ec):Prop:=∀ f b m,T.find f=some (b,m)→∀ args,Cf P f args (m args)
def Kk (P:Program) (T:ec):Prop:=∀ f b m,T.find f=some (b,m)→∀ args,Yp P f args (m args)
theorem ak.toF {P:Program} [KP P] {T:ec} (h:ak P T):Kk P T:=fun f b m hf args=>(h f b m hf args).toF
theorem Gy {P:Program} [KP P] {T:ec} {o:Oper} {ρ:Operand→AV} {st st':St} {r:AV} (h:gx P T o ρ st=some (r,st')) :
 (∃ f args ts,o.op = .call { callee:=.value f,args,argTypes:=ts }∧u9 T (ρ f) (args.toList.map ρ) st=some (r,st'))∨mono (Zy P o ρ) st=some (r,st'):=by
 obtain ⟨dst,op,type,pos,after,guard⟩:=o
 cases op with
 |call c=>
  obtain ⟨callee,args,ts⟩:=c
  cases callee with
  |value f=>exact .inl ⟨f,args,ts,rfl,h⟩
  |_=>exact .inr h
 |_=>exact .inr h
theorem aa0 {P:Program} [KP P] {o:Oper} {a:Act} {g:Gh} {st st':St} {w:World} {ρ:Operand→AV} {r:AV} (hok:Ok g st.h w) (hf:me g st st') (hr:mn g w ρ a.eval) (h:mono (Zy P o ρ) st=some (r,st')) :
 Cw P o a w (fun v w'=>∃ g',Step g st.h w st.nx st'.nx g' st'.h w'∧Ok g' st'.h w'∧Rel g' w' r v):=by
 obtain ⟨h1,hle⟩:=Bk h
 have hd:∀ c,o.op ≠ .defer c:=by
  intro c e
  unfold Zy at h1
  rw [e] at h1
  cases h1
 obtain ⟨nx,w',g',q1,q2,q3,q4⟩:=awn (P:=P) hok hf hr h1
 intro ro N K Q hK
 refine ⟨lz ro P o a w,?_⟩
 rw [Oper.semAt_eq _ _ _ hd,q1]
 rcases q4 with ⟨v,rfl,hv⟩|⟨rfl,rfl⟩
 ·exact hK v w' ⟨g',q2,q3,hv⟩
 ·exact hK undef w' ⟨g',q2,q3,.sc _⟩
theorem anw {P:Program} [KP P] {o:Oper} {a:Act} {g:Gh} {st st':St} {w:World} {r:AV} {h:Nat} {args:List AV} {vs:List Value} {m:M AV} (hnd:∀ c,o.op ≠ .defer c) (hok:Ok g st.h w) (hf:me g st st') (hlo:Low st)
 (hm:Yp P h args m) (hrel:bp g w args vs) (hrun:(execOp a.eval o).run P w=(callFunc h vs.toArray).run P w) (hst:m st=some (r,st')) :
 Cw P o a w (fun v w'=>∃ g',Step g st.h w st.nx st'.nx g' st'.h w'∧Ok g' st'.h w'∧Rel g' w' r v):=by
 intro ro N K Q hK
 refine ⟨lz ro P o a w,?_⟩
 rw [Oper.semAt_eq _ _ _ hnd,hrun]
 rcases hm g st w vs r st' hok hf hlo hrel hst with ⟨v,w',g',q1,q2,q3,q4⟩|⟨q1,q2⟩
 ·rw [q1];exact hK v w' ⟨g',q2,q3,q4⟩
 ·rw [q1]
  refine ⟨(fun h=>(by cases h)),(rz (ro:=ro) (n:=N - 1) q2).mono ?_⟩
  rintro e w' ⟨v,g',rfl,p2,p3,p4⟩
  exact hK v w' ⟨g',p2,p3,p4⟩
theorem akt {P:Program} [KP P] {o:Oper} {a:Act} {g:Gh} {st st':St} {w:World} {r:AV} {h:Nat} {args:List AV} {vs:List Value} {m:M AV} (hnd:∀ c,o.op ≠ .defer c) (hok:Ok g st.h w) (hf:me g st st')
 (hm:Cf P h args m) (hrel:bp g w args vs) (hrun:(execOp a.eval o).run P w=(callFunc h vs.toArray).run P w) (hst:m st=some (r,st')) :
 Cw P o a w (fun v w'=>∃ g',Step g st.h w st.nx st'.nx g' st'.h w'∧Ok g' st'.h w'∧Rel g' w' r v):=by
 intro ro N K Q hK
 refine ⟨lz ro P o a w,?_⟩
 rw [Oper.semAt_eq _ _ _ hnd,hrun]
 rcases hm g st w vs r st' hok hf hrel hst with ⟨v,w',g',q1,q2,q3,q4⟩|⟨q1,q2⟩
 ·rw [q1];exact hK v w' ⟨g',q2,q3,q4⟩
 ·rw [q1]
  refine ⟨(fun h=>(by cases h)),(rz (ro:=ro) (n:=N - 1) q2).mono ?_⟩
  rintro e w' ⟨v,g',rfl,p2,p3,p4⟩
  exact hK v w' ⟨g',p2,p3,p4⟩
theorem at0 {P:Program} [KP P] {T:ec} (hT:ak P T) {o:Oper} {a:Act} {g:Gh} {st st':St} {w:World} {ρ:Operand→AV} {r:AV} {f:Operand} {args:Array Operand} {ts:Array TypeId}
 (ho:o.op = .call { callee:=.value f,args,argTypes:=ts }) (hok:Ok g st.h w) (hf:me g st st') (hr:mn g w ρ a.eval) (h:u9 T (ρ f) (args.toList.map ρ) st=some (r,st')) :
 Cw P o a w (fun v w'=>∃ g',Step g st.h w st.nx st'.nx g' st'.h w'∧Ok g' st'.h w'∧Rel g' w' r v):=by
 have hargs:=hr.list args.toList
 have go:∀ (k:Nat) (first captured:List AV) (va vb:Array Value),a.eval f = .func (.func k) va vb→bp g w first va.toList→bp g w captured vb.toList→tk T k (first++args.toList.map ρ++captured) st=some (r,st') →
  Cw P o a w (fun v w'=>∃ g',Step g st.h w st.nx st'.nx g' st'.h w'∧Ok g' st'.h w'∧Rel g' w' r v):=by
  intro k first captured va vb hfn h1 h2 hc
  unfold tk at hc
  cases hfd:T.find k with
  |none=>rw [hfd] at hc;cases hc
  |some p=>
   obtain ⟨b,m⟩:=p
   rw [hfd] at hc
   refine akt (Ee ho) (vs:=va.toList++args.toList.map a.eval++vb.toList) hok hf (hT k b m hfd _) ((h1.append hargs).append h2) ?_ (Bk hc).1
   rw [G9 ho hfn]
   congr 2
   apply Array.ext'
   simp
 have hv:=hr f
 unfold u9 at h
 cases hx : ρ f with
 |fn fx first captured=>
  rw [hx] at h hv
  simp only at h
  cases fx with
  |func k=>
   have:∃ va vb,a.eval f = .func (.func k) va vb∧bp g w first va.toList∧bp g w captured vb.toList:=by
    generalize a.eval f=vf at hv
    cases hv with
    |fn _ _ _ va vb hs hh hs' hh'=>exact ⟨va,vb,rfl,⟨by simpa using hs,fun i x y hx hy=>hh i x y hx (by simpa using hy)⟩,⟨by simpa using hs',fun i x y hx hy=>hh' i x y hx (by simpa using hy)⟩⟩
   obtain ⟨va,vb,e,h1,h2⟩:=this
   exact go k first captured va vb e h1 h2 h
  |_=>cases h
 |sc x=>
  rw [hx] at h hv
  simp only at h
  cases x with
  |func fx first captured=>
   cases fx with
   |func k=>
    have e:=hv.exact rfl
    exact go k _ _ first captured e (bp.C7 g w _) (bp.C7 g w _) h
   |_=>cases h
  |_=>cases h
 |_=>rw [hx] at h;cases h
theorem Pm {P:Program} [KP P] {T:ec} (hT:ak P T) {o:Oper} {a:Act} {g:Gh} {st st':St} {w:World} {ρ:Operand→AV} {r:AV} (hok:Ok g st.h w) (hf:me g st st') (hr:mn g w ρ a.eval) (h:gx P T o ρ st=some (r,st')) :
 Cw P o a w (fun v w'=>∃ g',Step g st.h w st.nx st'.nx g' st'.h w'∧Ok g' st'.h w'∧Rel g' w' r v):=by
 rcases Gy h with ⟨f,args,ts,ho,h1⟩|h1
 ·exact at0 hT ho hok hf hr h1
 ·exact aa0 hok hf hr h1
theorem aq9 {P:Program} [KP P] {T:ec} (hT:Kk P T) {o:Oper} {a:Act} {g:Gh} {st st':St} {w:World} {ρ:Operand→AV} {r:AV} {f:Operand} {args:Array Operand} {ts:Array TypeId}
 (ho:o.op = .call { callee:=.value f,args,argTypes:=ts }) (hok:Ok g st.h w) (hf:me g st st') (hlo:Low st) (hr:mn g w ρ a.eval) (h:u9 T (ρ f) (args.toList.map ρ) st=some (r,st')) :
 Cw P o a w (fun v w'=>∃ g',Step g st.h w st.nx st'.nx g' st'.h w'∧Ok g' st'.h w'∧Rel g' w' r v):=by
 have hargs:=hr.list args.toList
 have go:∀ (k:Nat) (first captured:List AV) (va vb:Array Value),a.eval f = .func (.func k) va vb→bp g w first va.toList→bp g w captured vb.toList→tk T k (first++args.toList.map ρ++captured) st=some (r,st') →
  Cw P o a w (fun v w'=>∃ g',Step g st.h w st.nx st'.nx g' st'.h w'∧Ok g' st'.h w'∧Rel g' w' r v):=by
  intro k first captured va vb hfn h1 h2 hc
  unfold tk at hc
  cases hfd:T.find k with
  |none=>rw [hfd] at hc;cases hc
  |some p=>
   obtain ⟨b,m⟩:=p
   rw [hfd] at hc
   refine anw (Ee ho) (vs:=va.toList++args.toList.map a.eval++vb.toList) hok hf hlo (hT k b m hfd _) ((h1.append hargs).append h2) ?_ (Bk hc).1
   rw [G9 ho hfn]
   congr 2
   apply Array.ext'
   simp
 have hv:=hr f
 unfold u9 at h
 cases hx : ρ f with
 |fn fx first captured=>
  rw [hx] at h hv
  simp only at h
  cases fx with
  |func k=>
   have:∃ va vb,a.eval f = .func (.func k) va vb∧bp g w first va.toList∧bp g w captured vb.toList:=by
    generalize a.eval f=vf at hv
    cases hv with
    |fn _ _ _ va vb hs hh hs' hh'=>exact ⟨va,vb,rfl,⟨by simpa using hs,fun i x y hx hy=>hh i x y hx (by simpa using hy)⟩,⟨by simpa using hs',fun i x y hx hy=>hh' i x y hx (by simpa using hy)⟩⟩
   obtain ⟨va,vb,e,h1,h2⟩:=this
   exact go k first captured va vb e h1 h2 h
  |_=>cases h
 |sc x=>
  rw [hx] at h hv
  simp only at h
  cases x with
  |func fx first captured=>
   cases fx with
   |func k=>
    have e:=hv.exact rfl
    exact go k _ _ first captured e (bp.C7 g w _) (bp.C7 g w _) h
   |_=>cases h
  |_=>cases h
 |_=>rw [hx] at h;cases h
theorem aky {P:Program} [KP P] {T:ec} (hT:Kk P T) {o:Oper} {a:Act} {g:Gh} {st st':St} {w:World} {ρ:Operand→AV} {r:AV} (hok:Ok g st.h w) (hf:me g st st') (hlo:Low st) (hr:mn g w ρ a.eval) (h:gx P T o ρ st=some (r,st')) :
 Cw P o a w (fun v w'=>∃ g',Step g st.h w st.nx st'.nx g' st'.h w'∧Ok g' st'.h w'∧Rel g' w' r v):=by
 rcases Gy h with ⟨f,args,ts,ho,h1⟩|h1
 ·exact aq9 hT ho hok hf hlo hr h1
 ·exact aa0 hok hf hr h1
theorem adq {P:Program} [KP P] {o:Oper} {a:Act} {g:Gh} {st:St} {w:World} {L:SL} {K:SL→St→Prop} (hok:Ok g st.h w) (hfr:∀ o,st.nx≤o→g.inj o=none) (hr:mn g w (dt L) a.eval) (h:Mb P o L st K) :
 Cw P o a w (fun v w'=>∃ g' r st',K (m4 o.dst r L) st'∧st.nx≤st'.nx∧Step g st.h w st.nx st'.nx g' st'.h w'∧Ok g' st'.h w'∧Rel g' w' r v):=by
 unfold Mb at h
 split at h
 ·rename_i f args ts ho
  have hargs:=hr.list args.toList
  have go:∀ (k:Nat) (first captured:List AV) (va vb:Array Value),a.eval f = .func (.func k) va vb→bp g w first va.toList→bp g w captured vb.toList→xo P k (first++args.toList.map (dt L)++captured) st (il K o.dst L) →
   Cw P o a w (fun v w'=>∃ g' r st',K (m4 o.dst r L) st'∧st.nx≤st'.nx∧Step g st.h w st.nx st'.nx g' st'.h w'∧Ok g' st'.h w'∧Rel g' w' r v):=by
   intro k first captured va vb hfn h1 h2 hc
   have hrun:(execOp a.eval o).run P w=(callFunc k (va.toList++args.toList.map a.eval++vb.toList).toArray).run P w:=by
    rw [G9 ho hfn]
    congr 2
    apply Array.ext'
    simp
   intro ro N K' Q hK
   refine ⟨lz ro P o a w,?_⟩
   rw [Oper.semAt_eq _ _ _ (Ee ho),hrun]
   rcases hc g w _ hok hfr ((h1.append hargs).append h2) with ⟨v,w',g',r,st',q1,q2,q3,q4,q5,q6⟩|⟨q1,q2⟩
   ·rw [q1];exact hK v w' ⟨g',r,st',q2,q3,q4,q5,q6⟩
   ·rw [q1]
    refine ⟨(fun h=>(by cases h)),(rz (ro:=ro) (n:=N - 1) q2).mono ?_⟩
    rintro e w' ⟨v,g',r,st',rfl,p2,p3,p4,p5,p6⟩
    exact hK v w' ⟨g',r,st',p2,p3,p4,p5,p6⟩
  have hv:=hr f
  unfold aif at h
  cases hcv:Ue (dt L f) (args.toList.map (dt L)) with
  |none=>rw [hcv] at h;exact h.elim
  |some p=>
  obtain ⟨k,azs⟩:=p
  rw [hcv] at h
  simp only at h
  unfold Ue at hcv
  cases hx:dt L f with
  |fn fx first captured=>
   rw [hx] at hcv hv
   simp only at hcv
   cases fx with
   |func k=>
    cases hcv
    have:∃ va vb,a.eval f = .func (.func k) va vb∧bp g w first va.toList∧bp g w captured vb.toList:=by
     generalize a.eval f=vf at hv
     cases hv with
     |fn _ _ _ va vb hs hh hs' hh'=>exact ⟨va,vb,rfl,⟨by simpa using hs,fun i x y hx hy=>hh i x y hx (by simpa using hy)⟩,⟨by simpa using hs',fun i x y hx hy=>hh' i x y hx (by simpa using hy)⟩⟩
    obtain ⟨va,vb,e,h1,h2⟩:=this
    exact go k first captured va vb e h1 h2 h
   |_=>cases hcv
  |sc x=>
   rw [hx] at hcv hv
   simp only at hcv
   cases x with
   |func fx first captured=>
    cases fx with
    |func k=>
     cases hcv
     have e:=hv.exact rfl
     exact go k _ _ first captured e (bp.C7 g w _) (bp.C7 g w _) h
    |_=>cases hcv
   |_=>cases hcv
  |_=>rw [hx] at hcv;cases hcv
 ·exact h.elim
theorem aru {T:ec} {f:AV} {args:List AV} {st st':St} {r:AV} (h:u9 T f args st=some (r,st')):st.nx≤st'.nx:=by
 have one:∀ k args,tk T k args st=some (r,st')→st.nx≤st'.nx:=by
  intro k args h
  unfold tk at h
  cases hfd:T.find k with
  |none=>rw [hfd] at h;cases h
  |some p=>rw [hfd] at h;exact (Bk h).2
 have two:∀ k args,ac2 T k args st=some (r,st')→st.nx≤st'.nx:=by
  intro k args h
  cases k with
  |func k=>exact one k args h
  |_=>cases h
 unfold u9 at h
 cases f with
 |fn k a b=>exact two k _ h
 |sc x=>
  cases x with
  |func k a b=>exact two k _ h
  |_=>cases h
 |_=>cases h
theorem Dd {P:Program} [KP P] {T:ec} {o:Oper} {ρ:Operand→AV} {st st':St} {r:AV} (h:gx P T o ρ st=some (r,st')):st.nx≤st'.nx:=by
 rcases Gy h with ⟨f,args,ts,ho,h1⟩|h1
 ·exact aru h1
 ·exact (Bk h1).2
theorem Q7 {g w a v b} (h:Rel g w a v) (hb:a.bool=some b):v = .bool b:=by
 unfold AV.bool AV.exact nn at hb
 cases a with
 |sc x=>
  have:=h.exact rfl
  subst this
  simp only [Option.bind_some] at hb
  split at hb
  ·simp at hb;subst hb;rfl
  ·cases hb
 |_=>cases hb
theorem Mw {a:AV} {x y:Prop} (h:o8 a x y):∃ v,a.bool=some v∧(v=true→x)∧(v=false→y):=by
 unfold o8 at h
 split at h
 ·rename_i v hv;exact ⟨v,hv,h⟩
 ·exact h.elim
theorem Rf {o:Option Bool} {x y:Prop} (h:zh o x y):∃ b,o=some b∧(b=true→x)∧(b=false→y):=by
 unfold zh at h
 split at h
 ·rename_i v;exact ⟨v,rfl,h⟩
 ·exact h.elim
theorem P7 {g w a v c b} (h:Rel g w a v) (hb:Az a c=some b):Ej c v=b:=by
 unfold Az AV.exact at hb
 cases a with
 |sc x=>
  have:=h.exact rfl
  subst this
  simpa using hb
 |_=>cases hb
theorem N9 {ops:Array Oper} {tmps:Array Value} {j d:Nat} (c:Bool) (hd:((ops[j]?).bind (·.dst))=some d) (hlt:d<tmps.size):(yielded ops tmps j == some c)=Ej c (tmps.getD d undef):=by
 unfold yielded
 rw [hd,Option.bind_some,Array.getD_eq_getD_getElem?,Array.getElem?_eq_getElem hlt,Option.getD_some]
 generalize tmps[d]=v
 unfold Ej
 cases v<;>first|rfl|(cases c<;>rfl)
theorem H0 {ops:Array Oper} {L:SL} {o:Oper} {x y:Prop} {g w nt} {a:Act} (hr:gv g w nt L a.tmps) (hs:∀ j b,o.guard=some (j,b)→∃ d,((ops[j]?).bind (·.dst))=some d∧d<nt.n) (h:guarded ops L o.guard x y) :
 (Region.wanted o (yielded ops a.tmps)=true∧x)∨(Region.wanted o (yielded ops a.tmps)=false∧y):=by
 unfold guarded at h
 unfold Region.wanted
 cases hg:o.guard with
 |none=>rw [hg] at h;exact .inl ⟨rfl,h⟩
 |some q=>
  obtain ⟨j,b⟩:=q
  obtain ⟨d,hd,hlt⟩:=hs j b hg
  rw [hg] at h
  have hgs:tj ops j=d:=by unfold tj;rw [hd];rfl
  simp only [hgs] at h
  dsimp only
  obtain ⟨c,hc,h1,h2⟩:=Rf h
  rw [N9 b hd (by rw [hr.1.size];exact hlt),P7 (hr.2 d) hc]
  cases c with
  |true=>exact .inl ⟨rfl,h1 rfl⟩
  |false=>exact .inr ⟨rfl,h2 rfl⟩
theorem q9 {nt:NT} {ops:Array Oper} (h:Be nt ops=true) {o:Oper} (ho:o ∈ ops):∀ d,o.dst=some d→nt.has d=true:=by
 intro d hd
 unfold Be at h
 rw [Array.all_eq_true_iff_forall_mem] at h
 have:=h o ho
 rw [hd] at this
 simpa using this
theorem Hp {nt:NT} {ops:Array Oper} (h:tw nt ops=true) {o:Oper} (ho:o ∈ ops):∀ j b,o.guard=some (j,b)→∃ d,((ops[j]?).bind (·.dst))=some d∧d<nt.n:=by
 intro j b hg
 unfold tw at h
 rw [Array.all_eq_true_iff_forall_mem] at h
 have:=h o ho
 rw [hg] at this
 simp only at this
 split at this
 ·rename_i d hd;exact ⟨d,hd,by simpa using this⟩
 ·cases this
theorem as7 {P:Program} [KP P] {T:ec} (hT:ak P T) {ops:Array Oper} {ro:Option Nat} {N:Nat} {B:fj} {nt:NT} {Q:Exit→Act→World→Prop} {K:SL→St→Prop} (hnf:B.lr) (hg:tw nt ops=true) (hd:Be nt ops=true)
 (hK:∀ L st g w a,K L st→jh B g st w→gv g w nt L a.tmps→Marks B.D B.n0 st.h g w a.defers→Q .normal a w) :
 ∀ (l:List Oper) (is:List Nat),(∀ o ∈ l,o ∈ ops)→is.map (fun i=>ops[i]?)=l.map some→∀ L st g w a,opsL P T ops l K L st→jh B g st w→gv g w nt L a.tmps→Marks B.D B.n0 st.h g w a.defers→wpOpsIn (g8 ro) N P ops Q is a w:=by
 intro l
 induction l with
 |nil=>
  intro is _ his L st g w a h hc hr hdf
  cases is with
  |nil=>exact hK L st g w a h hc hr hdf
  |cons i is=>cases his
 |cons o l ih=>
  intro is hmem his L st g w a h hc hr hdf
  cases is with
  |nil=>cases his
  |cons i is=>
   simp only [List.map_cons,List.cons.injEq] at his
   obtain ⟨hi,his⟩:=his
   have ho:=hmem o (by simp)
   simp only [wpOpsIn,hi]
   rcases H0 hr (Hp hg ho) h with ⟨hw,h1⟩|⟨hw,h1⟩
   ·rw [hw,if_pos rfl]
    unfold T0 Fx at h1
    cases hop:gx P T o (dt L) st with
    |none=>
     rw [hop] at h1
     refine adq hc.ok (fun o ho=>hc.fresh o ho (hnf o)) hr.eval h1 ro N _ _ ?_
     rintro u w' ⟨g',v,st',q0,q1,q2,q3,q4⟩
     exact ih is (fun o ho=>hmem o (by simp [ho])) his _ st' g' w' _ q0 (hc.step (hnf.Fl _ _) ⟨q1,q2⟩ q3) ((hr.ext q2.ext).put q4 (q9 hd ho)) (by rw [put_defers];exact hdf.step q2)
    |some p=>
     obtain ⟨v,st'⟩:=p
     rw [hop] at h1
     refine Pm hT hc.ok (hc.free (hnf.Fl _ _)) hr.eval hop ro N _ _ ?_
     rintro u w' ⟨g',q1,q2,q3⟩
     exact ih is (fun o ho=>hmem o (by simp [ho])) his _ st' g' w' _ h1 (hc.step (hnf.Fl _ _) ⟨Dd hop,q1⟩ q2) ((hr.ext q1.ext).put q3 (q9 hd ho)) (by rw [put_defers];exact hdf.step q1)
   ·rw [hw,if_neg (by simp)]
    refine ⟨lz ro P o a w,?_⟩
    exact ih is (fun o ho=>hmem o (by simp [ho])) his _ st g w _ h1 hc (hr.put (.sc _) (q9 hd ho)) (by rw [put_defers];exact hdf)
theorem Jz (ops:Array Oper):(List.range ops.size).map (fun i=>ops[i]?)=ops.toList.map some:=by
 apply List.ext_getElem?
 intro i
 simp only [List.getElem?_map]
 by_cases h:i<ops.size
 ·simp [h]
 ·simp [h]
theorem kb (τ:Nat→Option Nat):∀ l:List AV,AV.dr.go τ l=l.map (AV.dr τ)
 | []=>rfl
 |a::r=>by simp [AV.dr.go,kb τ r]
theorem U8 (τ:Nat→Option Nat) (a:AV):(a.dr τ).cells=a.cells.map (AV.dr τ):=by
 cases a<;>simp only [AV.dr]<;>(try split)<;>simp_all [AV.cells,AV.dr,kb]
def Gh.dr (g:Gh) (N:List Nat):Gh:={ g with inj:=fun i=>(N[i]?).bind g.inj }
theorem Rel.dr {g w} {τ:Nat→Option Nat} {N:List Nat} (hτ:∀ o p,τ o=some p→N[p]? = some o) {a:AV} {v:Value} (h:Rel g w a v):Rel (g.dr N) w (a.dr τ) v:=by
 have hi:∀ o p q,τ o=some p→g.inj o=some q→(g.dr N).inj p=some q:=by
  intro o p q h1 h2;simp [Gh.dr,hτ o p h1,h2]
 induction h with
 |sc x=>exact .sc x
 |agg l vs hs _ ih=>simp only [AV.dr,kb];exact .agg _ vs (by simp [hs]) (fun i a v ha hv=>by
  rw [List.getElem?_map,Option.map_eq_some_iff] at ha;obtain ⟨b,hb,rfl⟩:=ha;exact ih i b v hb hv)
 |ga l vs hs _ ih=>simp only [AV.dr,kb];exact .ga _ vs (by simp [hs]) (fun i a v ha hv=>by
  rw [List.getElem?_map,Option.map_eq_some_iff] at ha;obtain ⟨b,hb,rfl⟩:=ha;exact ih i b v hb hv)
 |vl loc sz es b off cap c hsz hl hcap h _ hw ih=>
  have hfm:(es.map (AV.dr τ)).flatMap AV.cells=(es.flatMap AV.cells).map (AV.dr τ):=by
   rw [List.flatMap_map,List.map_flatMap];congr 1;funext x;exact U8 τ x
  simp only [AV.dr,kb]
  have:=Rel.vl (g:=g.dr N) (w:=w) loc sz (es.map (AV.dr τ)) b off cap c (fun e he=>by
   obtain ⟨x,hx,rfl⟩:=List.mem_map.1 he;rw [U8];simp [hsz x hx]) hl (by simpa using hcap)
   (fun j a hj=>by rw [hfm,List.getElem?_map,Option.map_eq_some_iff] at hj;obtain ⟨x,hx,rfl⟩:=hj;exact h j x hx)
   (fun j a hj=>by rw [hfm,List.getElem?_map,Option.map_eq_some_iff] at hj;obtain ⟨x,hx,rfl⟩:=hj;exact ih j x hx) (fun e=>by
    have:=hw e
    rw [List.length_map]
    exact ⟨this.K,this.rn,this.none,this.cm⟩)
  simpa using this
 |j4 loc sz=>exact .j4 loc sz
 |qz loc sz a=>exact .qz loc sz a
 |sl o off len sz b base cap h1 hc hm hr=>
  simp only [AV.dr]
  cases hp : τ o with
  |none=>exact .bad _
  |some p=>exact .sl p off len sz b base cap (hi o p _ hp h1) hc hm hr
 |sq o off sz a=>
  simp only [AV.dr]
  cases hp : τ o with
  |none=>exact .bad _
  |some p=>exact .sq p off sz a
 |tf o off sz=>
  simp only [AV.dr]
  cases hp : τ o with
  |none=>exact .bad _
  |some p=>exact .tf p off sz
 |ez a=>exact .ez a
 |ptr o off b base h1=>
  simp only [AV.dr]
  cases hp : τ o with
  |none=>exact .bad _
  |some p=>exact .ptr p off b base (hi o p _ hp h1)
 |ft l b off c h _ ih=>
  simp only [AV.dr,kb]
  exact .ft _ b off c (fun j a hj=>by rw [List.getElem?_map,Option.map_eq_some_iff] at hj;obtain ⟨x,hx,rfl⟩:=hj;exact h j x hx)
   (fun j a hj=>by rw [List.getElem?_map,Option.map_eq_some_iff] at hj;obtain ⟨x,hx,rfl⟩:=hj;exact ih j x hx)
 |fn f first captured va vb hs _ hs' _ ih ih'=>
  simp only [AV.dr,kb]
  exact .fn f _ _ va vb (by simp [hs]) (fun i a v ha hv=>by rw [List.getElem?_map,Option.map_eq_some_iff] at ha;obtain ⟨b,hb,rfl⟩:=ha;exact ih i b v hb hv)
   (by simp [hs']) (fun i a v ha hv=>by rw [List.getElem?_map,Option.map_eq_some_iff] at ha;obtain ⟨b,hb,rfl⟩:=ha;exact ih' i b v hb hv)
 |mp o b base h1=>
  simp only [AV.dr]
  cases hp : τ o with
  |none=>exact .bad _
  |some p=>exact .mp p b base (hi o p _ hp h1)
 |pd t a v _ ih=>exact .pd t _ v ih
 |yl o b base h1=>exact .bad _
 |bad v=>exact .bad v
theorem nh.dr {g w b base} {τ:Nat→Option Nat} {N:List Nat} (hτ:∀ o p,τ o=some p→N[p]? = some o) {x y:bh} (h:nh g w b base x) (hy:x.dr τ=some y):nh (g.dr N) w b base y:=by
 cases x with
 |row cells k st et=>
  simp only [bh.dr,Option.some.injEq] at hy
  subst hy
  obtain ⟨cs,fr,h1,h2,h3,h4,h5,h6,h7⟩:=h
  rw [kb]
  exact ⟨cs,fr,h1,by simpa using h2,fun j a ha=>by
   rw [List.getElem?_map,Option.map_eq_some_iff] at ha
   obtain ⟨x,hx,rfl⟩:=ha
   obtain ⟨c,hc,hr⟩:=h3 j x hx
   exact ⟨c,hc,hr.dr hτ⟩,h4,h5,h6,by simpa using h7⟩
 |map es=>
  simp only [bh.dr,Option.some.injEq] at hy
  subst hy
  obtain ⟨h0,ms,clock,h1,h2⟩:=h
  refine ⟨h0,ms,clock,h1,h2.same (by simp) (fun hl=>?_) fun i e v he=>?_⟩
  ·have key:∀ (l:List (Value × AV)) (f:Value × AV→Value × AV),(∀ e,(f e).1=e.1)→Bs (l.map f)=Bs l:=by
    intro l f hf
    induction l with
    |nil=>rfl
    |cons a l ih=>simp only [List.map_cons,Bs,ih,List.all_map];congr 2;funext x;simp [hf]
   unfold loose at hl ⊢
   rw [key es (fun e=>(e.1,e.2.dr τ)) (fun _=>rfl)]
   simpa using hl
  ·rw [List.getElem?_map,Option.map_eq_some_iff] at he
   obtain ⟨x,hx,rfl⟩:=he
   exact ⟨x,hx,rfl,fun hr=>hr.dr hτ⟩
 |loop=>cases hy
theorem O6 (a:Nat) (l:List Nat) (o i:Nat):idx (a::l) o i=if a=o then some i else idx l o (i+1):=by
 show (bif Nat.beq a o then some i else idx l o (i+1))=_
 by_cases h:a=o
 ·subst h;simp
 ·rw [if_neg h,n8 h];rfl
theorem agw:∀ (l:List Nat) (o i p:Nat),idx l o i=some p→i≤p∧l[p - i]? = some o
 | [],o,i,p,h=>by cases h
 |a::l,o,i,p,h=>by
  rw [O6] at h
  by_cases e:a=o
  ·rw [if_pos e] at h;simp at h;subst h;subst e;simp
  ·rw [if_neg e] at h
   obtain ⟨h1,h2⟩:=agw l o (i+1) p h
   refine ⟨by omega,?_⟩
   rw [show p - i=(p - (i+1))+1 from by omega]
   simpa using h2
theorem Ug (l:List Nat) (o p:Nat) (h:idx l o 0=some p):l[p]? = some o:=by simpa using (agw l o 0 p h).2
theorem wu (h:Tr bh):∀ (n:Nat) (todo acc:List Nat),acc.Nodup→(reach h n todo acc).Nodup∧(∃ r,reach h n todo acc=acc++r)∧(reach h n todo acc).length≤acc.length+n:=by
 intro n
 induction n with
 |zero=>intro todo acc hn;exact ⟨by simpa [reach] using hn,⟨[],by simp [reach]⟩,by simp [reach]⟩
 |succ n ih=>
  intro todo acc hn
  cases todo with
  |nil=>exact ⟨by simpa [reach] using hn,⟨[],by simp [reach]⟩,by simp [reach]⟩
  |cons o r=>
   simp only [reach]
   cases hc:acc.contains o with
   |true=>
    obtain ⟨h1,h2,h3⟩:=ih r acc hn
    exact ⟨h1,h2,by simp only [cond_true];omega⟩
   |false=>
    simp only [cond_false]
    have hno:o ∉ acc:=by simpa using hc
    cases hg:h.get o with
    |none=>
     obtain ⟨h1,h2,h3⟩:=ih r acc hn
     exact ⟨h1,h2,by dsimp only;omega⟩
    |some x=>
     have hn':(acc++[o]).Nodup:=by
      rw [List.nodup_append]
      exact ⟨hn,by simp,fun a ha b hb=>by simp at hb;subst hb;intro e;subst e;exact hno ha⟩
     obtain ⟨h1,⟨q,h2⟩,h3⟩:=ih (x.names++r) (acc++[o]) hn'
     refine ⟨h1,⟨o::q,by simp [h2]⟩,?_⟩
     simp only [List.length_append,List.length_singleton] at h3
     dsimp only
     omega
theorem Cl:∀ (n lo i:Nat),i<n→(dx lo n)[i]? = some (lo+i)
 |0,lo,i,h=>by omega
 |n+1,lo,0,h=>by simp [dx]
 |n+1,lo,i+1,h=>by
  rw [dx,List.getElem?_cons_succ,Cl n (lo+1) i (by omega),Nat.add_assoc,Nat.add_comm 1 i]
theorem m7:∀ (n lo o:Nat),o ∈ dx lo n↔lo≤o∧o<lo+n
 |0,lo,o=>by simp [dx]
 |n+1,lo,o=>by rw [dx,List.mem_cons,m7 n (lo+1) o];omega
theorem iw:∀ (n lo:Nat),(dx lo n).length=n
 |0,_=>rfl
 |n+1,lo=>by simp [dx,iw n]
theorem ox:∀ (n lo:Nat),(dx lo n).Nodup
 |0,_=>by simp [dx]
 |n+1,lo=>by
  rw [dx,List.nodup_cons]
  exact ⟨by rw [m7];omega,ox n (lo+1)⟩
theorem ud:∀ (os:List (Option bh)) (i j:Nat),i+os.length≤dk+1→(l5 i os).get j=if i≤j then (os[j - i]?).join else none
 | [],i,j,_=>by simp [l5,Tr.get_nil]
 |x::r,i,j,h=>by
  simp only [List.length_cons] at h
  rw [l5,i7 _ _ _ _ (by omega),ud r (i+1) j (by omega)]
  by_cases e:j=i
  ·subst e;simp
  ·rw [if_neg e]
   by_cases h1:i+1≤j
   ·rw [if_pos h1,if_pos (by omega),show j - i=(j - (i+1))+1 from by omega,List.getElem?_cons_succ]
   ·rw [if_neg h1,if_neg (by omega)]
theorem u1 (h:Tr bh) (τ:Nat→Option Nat):∀ (l:List Nat) (i:Nat),(ju h τ l)[i]? = (l[i]?).map (fun o=>(h.get o).bind (bh.dr τ))
 | [],i=>by simp [ju]
 |o::r,0=>by simp [ju]
 |o::r,i+1=>by simp [ju,u1 h τ r i]
theorem iu (h:Tr bh) (τ:Nat→Option Nat):∀ l:List Nat,(ju h τ l).length=l.length
 | []=>rfl
 |_::r=>by simp [ju,iu h τ r]
theorem U3:∀ (keep:List Nat) (f:Nat→AV) (t:Nat),lk (gu keep (keep.map f)) t=if t ∈ keep then f t else .bad
 | [],f,t=>by simp [gu,lk]
 |k::ks,f,t=>by
  simp only [List.map_cons,gu,s7,U3 ks f t,List.mem_cons]
  by_cases e:k=t
  ·subst e;simp
  ·rw [if_neg e]
   by_cases h:t ∈ ks
   ·simp [h]
   ·simp [h,Ne.symm e]
theorem D1 {B:fj} {nt:NT} {g:Gh} {st:St} {w:World} {L:SL} {tmps:Array Value} (hnf:B.lr) (hp:B.aw≤1000) (keep:List Nat) (hc:jh B g st w) (hr:gv g w nt L tmps) :
 jh B (g.dr (gj B.aw keep L st)) (bk (ep B.aw keep L st)) w∧gv (g.dr (gj B.aw keep L st)) w nt (gu keep (gi B.aw keep L st)) tmps:=by
 have hN:=wu st.h fe (AV.names.go (keep.map (lk L))++mz st.h (dx 0 B.aw)) (dx 0 B.aw) (ox _ _)
 change (gj B.aw keep L st).Nodup∧(∃ r,gj B.aw keep L st=dx 0 B.aw++r)∧(gj B.aw keep L st).length≤_ at hN
 have hτ:∀ o p,(fun o=>idx (gj B.aw keep L st) o 0) o=some p→(gj B.aw keep L st)[p]? = some o:=fun o p h=>Ug _ o p h
 unfold ep gi
 generalize gj B.aw keep L st=N at hN hτ
 obtain ⟨hnd,⟨rest,hpre⟩,hlen⟩:=hN
 rw [iw] at hlen
 have hlim:N.length≤dk:=by simp only [fe,dk] at *;omega
 have ed:∀ i x,(bk (ju st.h (fun o=>idx N o 0) N)).h.get i=some x→∃ o y,N[i]? = some o∧st.h.get o=some y∧y.dr (fun o=>idx N o 0)=some x:=by
  intro i x hx
  simp only [bk] at hx
  rw [ud _ _ _ (by rw [iu];omega),if_pos (Nat.zero_le _),Nat.sub_zero,u1] at hx
  cases hi:N[i]? with
  |none=>rw [hi] at hx;cases hx
  |some o=>
   rw [hi] at hx
   simp only [Option.map_some,Option.join_some] at hx
   cases hy:st.h.get o with
   |none=>rw [hy] at hx;cases hx
   |some y=>rw [hy] at hx;exact ⟨o,y,rfl,hy,hx⟩
 have hinj:∀ i o,N[i]? = some o→(g.dr N).inj i=g.inj o:=fun i o h=>by simp [Gh.dr,h]
 refine ⟨⟨⟨hc.ok.size,fun i x hx=>?_,fun i j x y b base base' hij hx hy hb hb'=>?_,hc.ok.K⟩,fun i hi=>?_,?_,?_⟩,hr.1,fun t=>?_⟩
 ·obtain ⟨o,y,h1,h2,h3⟩:=ed i x hx
  refine (hc.ok.qi o y h2).imp (fun q=>⟨by rw [hinj i o h1];exact q.1,by obtain ⟨s0,e0,rfl⟩:=q.2;simp only [bh.dr,AV.dr.go,Option.some.injEq] at h3;exact ⟨s0,e0,h3.symm⟩⟩) ?_
  rintro ⟨b,base,q1,q2,q3⟩
  exact ⟨b,base,by rw [hinj i o h1];exact q1,q2,q3.dr hτ h3⟩
 ·obtain ⟨o,y1,h1,h2,_⟩:=ed i x hx
  obtain ⟨o',y2,h1',h2',_⟩:=ed j y hy
  rw [hinj i o h1] at hb
  rw [hinj j o' h1'] at hb'
  have hne:o≠o':=by
   intro e
   subst e
   obtain ⟨hi,ei⟩:=List.getElem?_eq_some_iff.1 h1
   obtain ⟨hj,ej⟩:=List.getElem?_eq_some_iff.1 h1'
   exact hij ((List.getElem_inj hnd).1 (ei.trans ej.symm))
  exact hc.ok.sep o o' _ _ b base base' hne h2 h2' hb hb'
 ·simp only [bk,iu] at hi
  intro _;simp [Gh.dr,List.getElem?_eq_none hi]
 ·have b:=hc.base
  refine ⟨b.b0,fun o ho=>?_,b.K,b.cell,b.size,b.os,b.tape,b.output,b.frame,fun i c base hi hj=>?_,b.oh,b.rn,b.lp,b.whole⟩
  ·have ho:=ho.resolve_right (hnf o)
   rw [hinj o o (by rw [hpre,List.getElem?_append_left (by rw [iw];exact ho),Cl _ _ _ ho,Nat.zero_add])]
   exact b.pins o (.inl ho)
  ·obtain ⟨x,hx⟩:=Option.isSome_iff_exists.1 hi
   obtain ⟨o,y,h1,h2,_⟩:=ed i x hx
   rw [hinj i o h1] at hj
   exact b.own o c base (by rw [h2];rfl) hj
 ·simp only [bk,iu]
  rw [hpre,List.length_append,iw]
  omega
 ·rw [kb,List.map_map,U3]
  by_cases h:t ∈ keep
  ·rw [if_pos h];exact (hr.2 t).dr hτ
  ·rw [if_neg h];exact .bad _
def qa (aw:Nat) (vs:List AV) (os:List (Option bh)):List Nat:=reach (bk os).h fe (AV.names.go vs++mz (bk os).h (dx 0 aw)) (dx 0 aw)
theorem ir.canon {aw:Nat} {vs:List AV} {os:List (Option bh)} (hp:aw≤1000) :
 ir aw vs os (AV.dr.go (fun o=>idx (qa aw vs os) o 0) vs) (ju (bk os).h (fun o=>idx (qa aw vs os) o 0) (qa aw vs os)):=by
 have hN:=wu (bk os).h fe (AV.names.go vs++mz (bk os).h (dx 0 aw)) (dx 0 aw) (ox _ _)
 change (qa aw vs os).Nodup∧(∃ r,qa aw vs os=dx 0 aw++r)∧(qa aw vs os).length≤_ at hN
 have hτ:∀ o p,(fun o=>idx (qa aw vs os) o 0) o=some p→(qa aw vs os)[p]? = some o:=fun o p h=>Ug _ o p h
 generalize qa aw vs os=N at hN hτ
 obtain ⟨hnd,⟨rest,hpre⟩,hlen⟩:=hN
 rw [iw] at hlen
 have hlim:N.length≤dk:=by simp only [fe,dk] at *;omega
 refine ⟨by rw [kb,List.length_map],fun _=>by rw [iu,hpre,List.length_append,iw];omega,fun g w us hok hf hr=>⟨g.dr N,?_⟩⟩
 have ed:∀ i x,(bk (ju (bk os).h (fun o=>idx N o 0) N)).h.get i=some x→∃ o y,N[i]? = some o∧(bk os).h.get o=some y∧y.dr (fun o=>idx N o 0)=some x:=by
  intro i x hx
  rw [show (bk (ju (bk os).h (fun o=>idx N o 0) N)).h=l5 0 (ju (bk os).h (fun o=>idx N o 0) N) from rfl,ud _ _ _ (by rw [iu];omega),if_pos (Nat.zero_le _),Nat.sub_zero,u1] at hx
  cases hi:N[i]? with
  |none=>rw [hi] at hx;cases hx
  |some o=>
   rw [hi] at hx
   simp only [Option.map_some,Option.join_some] at hx
   cases hy:(bk os).h.get o with
   |none=>rw [hy] at hx;cases hx
   |some y=>rw [hy] at hx;exact ⟨o,y,rfl,hy,hx⟩
 have hinj:∀ i o,N[i]? = some o→(g.dr N).inj i=g.inj o:=fun i o h=>by simp [Gh.dr,h]
 refine ⟨⟨hok.size,fun i x hx=>?_,fun i j x y b base base' hij hx hy hb hb'=>?_,hok.K⟩,?_,rfl,fun o ho=>?_,fun o ho=>?_,fun _ _ h=>h,fun i b base hi hj=>?_,fun _ _ h=>.inl h⟩
 ·obtain ⟨o,y,h1,h2,h3⟩:=ed i x hx
  refine (hok.qi o y h2).imp (fun q=>⟨by rw [hinj i o h1];exact q.1,by obtain ⟨s0,e0,rfl⟩:=q.2;simp only [bh.dr,AV.dr.go,Option.some.injEq] at h3;exact ⟨s0,e0,h3.symm⟩⟩) ?_
  rintro ⟨b,base,q1,q2,q3⟩
  exact ⟨b,base,by rw [hinj i o h1];exact q1,q2,q3.dr hτ h3⟩
 ·obtain ⟨o,y1,h1,h2,_⟩:=ed i x hx
  obtain ⟨o',y2,h1',h2',_⟩:=ed j y hy
  rw [hinj i o h1] at hb
  rw [hinj j o' h1'] at hb'
  have hne:o≠o':=by
   intro e
   subst e
   obtain ⟨hi,ei⟩:=List.getElem?_eq_some_iff.1 h1
   obtain ⟨hj,ej⟩:=List.getElem?_eq_some_iff.1 h1'
   exact hij ((List.getElem_inj hnd).1 (ei.trans ej.symm))
  exact hok.sep o o' _ _ b base base' hne h2 h2' hb hb'
 ·rw [kb]
  refine ⟨by simpa using hr.1,fun i a v ha hv=>?_⟩
  rw [List.getElem?_map,Option.map_eq_some_iff] at ha
  obtain ⟨x,hx,rfl⟩:=ha
  exact (hr.2 i x v hx hv).dr hτ
 ·rw [iu] at ho
  simp [Gh.dr,List.getElem?_eq_none ho]
 ·rw [hinj o o (by rw [hpre,List.getElem?_append_left (by rw [iw];exact ho),Cl _ _ _ ho,Nat.zero_add])]
 ·obtain ⟨x,hx⟩:=Option.isSome_iff_exists.1 hi
  obtain ⟨o,y,h1,h2,_⟩:=ed i x hx
  rw [hinj i o h1] at hj
  exact ⟨o,base,by rw [h2];rfl,hj⟩
theorem A2 {B:fj} {D:List Deferred} {n0:Nat} {g:Gh} {st:St} {w:World} {L:SL} {ds:List Deferred} (hp:B.aw≤1000) (keep:List Nat) (hd:Marks D n0 st.h g w ds) :
 Marks D n0 (bk (ep B.aw keep L st)).h (g.dr (gj B.aw keep L st)) w ds:=by
 have hN:=wu st.h fe (AV.names.go (keep.map (lk L))++mz st.h (dx 0 B.aw)) (dx 0 B.aw) (ox _ _)
 change (gj B.aw keep L st).Nodup∧(∃ r,gj B.aw keep L st=dx 0 B.aw++r)∧(gj B.aw keep L st).length≤_ at hN
 unfold ep
 generalize gj B.aw keep L st=N at hN
 obtain ⟨hnd,⟨rest,hpre⟩,hlen⟩:=hN
 rw [iw] at hlen
 have hlim:N.length≤dk:=by simp only [fe,dk] at *;omega
 obtain ⟨bs,h1,h2,h3⟩:=hd
 refine ⟨bs,h1,h2,fun b hb=>⟨(h3 b hb).1,(h3 b hb).2.1,fun i base hi hj=>?_⟩⟩
 obtain ⟨x,hx⟩:=Option.isSome_iff_exists.1 hi
 simp only [bk] at hx
 rw [ud _ _ _ (by rw [iu];omega),if_pos (Nat.zero_le _),Nat.sub_zero,u1] at hx
 cases hi':N[i]? with
 |none=>rw [hi'] at hx;cases hx
 |some o=>
  rw [hi'] at hx
  simp only [Option.map_some,Option.join_some] at hx
  cases hy:st.h.get o with
  |none=>rw [hy] at hx;cases hx
  |some y=>
   have:(g.dr N).inj i=g.inj o:=by simp [Gh.dr,hi']
   rw [this] at hj
   exact (h3 b hb).2.2 o base (by rw [hy];rfl) hj
theorem zb {F:Fence} {n:Nat} {P:Program} [KP P] {c:Code} {Q:Exit→Act→World→Prop} {a:Act} {w:World} (h:∀ X:Act→World→Prop,(∀ a w,c.wpIn F n P (Exit.then X Q) a w→X a w)→X a w):(Code.loop c).wpIn F n P Q a w:=by
 intro b k cs hro hb hr
 have key:=h (fun a w=>∃ e a' w',Q e a' w'∧ArrivesIn (Machine.fenced P F) P (lone (b.atR a (.code c :: .inLoop c::k)) cs w) b k cs e a' w') (fun a w hw=>by
  obtain ⟨e,a₁,w₁,hq,harr⟩:=hw b (.inLoop c::k) cs hro hb hr
  cases e with
  |normal=>
   obtain ⟨e₂,a₂,w₂,hq₂,harr₂⟩:=hq
   exact ⟨e₂,a₂,w₂,hq₂,.of_steps (StepsIn.trans harr (.one (fenced_calm hb hr rfl) stepR_inLoop)) harr₂⟩
  |exit id=>exact ⟨_,a₁,w₁,hq,.pass (x:=.inLoop c) rfl (fun _ _=>.inl (by simp)) harr⟩
  |goto l=>exact ⟨_,a₁,w₁,hq,.pass (x:=.inLoop c) rfl (fun _ _=>.inl (by simp)) harr⟩
  |ret=>exact ⟨_,a₁,w₁,hq,.pass (x:=.inLoop c) rfl (fun _ _=>.inl (by simp)) harr⟩
  |panic ch=>exact ⟨_,a₁,w₁,hq,.pass (x:=.inLoop c) rfl (fun _ _=>.inl (by simp)) harr⟩
  |outgrown=>exact ⟨_,a₁,w₁,hq,.pass (x:=.inLoop c) rfl (fun _ _=>.inl (by simp)) harr⟩)
 obtain ⟨e,a',w',hq,harr⟩:=key
 exact ⟨e,a',w',hq,.of_steps (.one (fenced_calm hb hr rfl) stepR_loop) harr⟩
def Ov (P:Program) (ro:Option Nat) (N:Nat) (B:fj) (nt:NT) (c:Code) (W:QL→SL→St→Prop):Prop:=
 ∀ (Q:QL) (L:SL) (st:St) (g:Gh) (w:World) (a:Act),W Q L st→jh B g st w→gv g w nt L a.tmps→Marks B.D B.n0 st.h g w a.defers→c.wpIn (g8 ro) N P (Fin B nt Q) a w
theorem akg (aw:Nat) (keep:List Nat) (L:SL) (st:St):gi aw keep L st=keep.map (fun t=>(lk L t).dr (fun o=>idx (gj aw keep L st) o 0)):=by
 unfold gi
 rw [kb,List.map_map]
 rfl
theorem anu {g w nt} {keep:List Nat} {L:SL} {tmps:Array Value} (f:Nat→AV) (hr:gv g w nt (gu keep (keep.map f)) tmps):bp g w (keep.map f) (keep.map fun t=>tmps.getD t undef):=by
 refine ⟨by simp,fun i a v ha hv=>?_⟩
 rw [List.getElem?_map,Option.map_eq_some_iff] at ha hv
 obtain ⟨t,ht,rfl⟩:=ha
 obtain ⟨t',ht',rfl⟩:=hv
 rw [ht] at ht';cases ht'
 have:=hr.2 t
 rw [U3,if_pos (List.mem_of_getElem? ht)] at this
 exact this
theorem ajz {g w nt} {tmps:Array Value} (hs:r9 nt tmps):∀ (keep:List Nat) (vs:List AV),bp g w vs (keep.map fun t=>tmps.getD t undef)→gv g w nt (gu keep vs) tmps:=by
 intro keep vs h
 refine ⟨hs,fun t=>?_⟩
 induction keep generalizing vs with
 |nil=>exact .bad _
 |cons k ks ih=>
  cases vs with
  |nil=>exact .bad _
  |cons v vs=>
   rw [List.map_cons] at h
   simp only [gu,s7]
   by_cases e:k=t
   ·subst e;rw [if_pos rfl];exact h.head
   ·rw [if_neg e];exact ih vs h.tail
theorem Lw {B:fj} {nt:NT} {g:Gh} {st:St} {w:World} {L:SL} {tmps:Array Value} (hnf:B.lr) (hp:B.aw≤1000) (keep:List Nat) {X:List AV→List (Option bh)→Prop} (h:upW B.aw X (gi B.aw keep L st) (ep B.aw keep L st)) (hc:jh B g st w) (hr:gv g w nt L tmps) :
 ∃ vs os g',X vs os∧jh B g' (bk os) w∧gv g' w nt (gu keep vs) tmps∧(∀ D n0 ds,Marks D n0 (bk (ep B.aw keep L st)).h (g.dr (gj B.aw keep L st)) w ds→Marks D n0 (bk os).h g' w ds)∧(∀ b,ia (g.dr (gj B.aw keep L st)) (bk (ep B.aw keep L st)).h b→ia g' (bk os).h b):=by
 obtain ⟨vs',os',hw,hx⟩:=h
 have:=D1 hnf hp keep hc hr
 have hv:=akg B.aw keep L st
 have hrl:=this.2
 rw [hv] at hrl
 have hk:=anu (L:=L) _ hrl
 rw [← hv] at hk
 obtain ⟨h1,h2,h3⟩:=hw
 obtain ⟨g',q1,q2,q3,q4,q4',q5,q6,q7⟩:=h3 _ w _ this.1.ok (fun o ho=>this.1.fresh o (by simpa [bk] using ho) (hnf o)) hk
 have b:=this.1.base
 refine ⟨vs',os',g',hx,⟨q1,fun o ho hf=>q4 o (by simpa [bk] using ho),⟨q3.trans b.b0,fun o ho=>by rw [q4' o (ho.resolve_right (hnf o))];exact b.pins o ho,fun b' j hk=>q5 _ _ (b.K b' j hk),b.cell,b.size,b.os,b.tape,b.output,b.frame,fun o c base ho hi=>?_,fun c j hk=>?_,b.rn,b.lp,b.whole⟩,by have:=h2 (by simpa [bk] using this.1.aw);simpa [bk] using this⟩,ajz hr.1 keep vs' q2,fun D n0 ds hm=>?_,fun b hu o base ho hi=>by
  obtain ⟨o2,base2,e1,e2⟩:=q6 o _ base ho hi
  exact hu o2 base2 e1 e2⟩
 ·obtain ⟨o2,base2,e1,e2⟩:=q6 o c base ho hi
  exact b.own o2 c base2 e1 e2
 ·rcases q7 c j hk with h4|⟨o,base,h4,h5⟩
  ·exact b.oh c j h4
  ·exact .inr (b.own o c base h4 h5)
 ·obtain ⟨bs,e1,e2,e3⟩:=hm
  exact ⟨bs,e1,e2,fun b hb=>⟨(e3 b hb).1,(e3 b hb).2.1,fun o base ho hi=>by
   obtain ⟨o2,base2,p1,p2⟩:=q6 o _ base ho hi
   exact (e3 b hb).2.2 o2 base2 p1 p2⟩⟩
theorem atw {P:Program} [KP P] {ro:Option Nat} {N:Nat} {B:fj} {nt:NT} {c:Code} {W:QL→SL→St→Prop} (hnf:B.lr) (hp:B.aw≤1000) (h:Ov P ro N B nt c W):Ov P ro N B nt (.loop c) (qo B.aw W):=by
 intro Q L st g w a hw hc hr hd
 obtain ⟨keep,hw⟩:=hw
 refine zb fun Y hY=>?_
 have head:∀ (L:SL) (st:St) (g:Gh) (w:World) (a:Act),upW B.aw (fun vs os=>∀ g w a,jh B g (bk os) w→gv g w nt (gu keep vs) a.tmps→Marks B.D B.n0 (bk os).h g w a.defers→Y a w) (gi B.aw keep L st) (ep B.aw keep L st)→jh B g st w→gv g w nt L a.tmps→Marks B.D B.n0 st.h g w a.defers→Y a w:=by
  intro L st g w a hh hc hr hd
  obtain ⟨vs',os',g',hx,k1,k2,k3,_⟩:=Lw hnf hp keep hh hc hr
  exact hx g' w a k1 k2 (k3 _ _ _ (A2 hp keep hd))
 have hX:=hw (fun vs os=>∀ g w a,jh B g (bk os) w→gv g w nt (gu keep vs) a.tmps→Marks B.D B.n0 (bk os).h g w a.defers→Y a w) (fun vs os hb g w a hc hr hd=>by
  refine hY a w (wpIn_mono (h _ _ _ g w a hb hc hr hd) ?_)
  rintro ex a' w' ⟨e,L',st',g',rfl,hq,hc',hr',hd'⟩
  cases e with
  |normal=>exact head _ _ _ _ _ hq hc' hr' hd'
  |exit id=>exact ⟨.exit id,L',st',g',rfl,hq,hc',hr',hd'⟩
  |ret=>exact ⟨.ret,L',st',g',rfl,hq,hc',hr',hd'⟩)
 exact head _ _ _ _ _ hX hc hr hd
theorem qo.arb {α:Type} {aw:Nat} {B:QL→SL→St→Prop} {Q:QL} {L:SL} {st:St} (keep:List Nat) (V : α→List AV) (O : α→List (Option bh)) (I : α→Prop) (μ : α→Nat) (x : α) (hx:I x)
 (hv:ir aw (gi aw keep L st) (ep aw keep L st) (V x) (O x))
 (hmono:∀ (Q Q':QL),(∀ e L st,Q e L st→Q' e L st)→∀ L st,B Q L st→B Q' L st)
 (step:∀ x,I x→B (uq aw keep (fun vs os=>∃ y,I y ∧ μ y < μ x∧ir aw vs os (V y) (O y)) Q) (gu keep (V x)) (bk (O x))):qo aw B Q L st:=by
 refine ⟨keep,fun X hX=>⟨_,_,hv,?_⟩⟩
 have key:∀ n x,μ x=n→I x→X (V x) (O x):=by
  intro n
  induction n using Nat.strongRecOn with
  |_ n ih=>
   intro x hn hi
   refine hX _ _ (hmono _ _ ?_ _ _ (step x hi))
   intro e L' st' hq
   cases e with
   |normal=>
    obtain ⟨y,h1,h2,h3⟩:=hq
    exact ⟨_,_,h3,ih (μ y) (by omega) y rfl h1⟩
   |exit id=>exact hq
   |ret=>exact hq
 exact key _ x rfl hx
theorem qo.of {α:Type} {aw:Nat} {B:QL→SL→St→Prop} {Q:QL} {L:SL} {st:St} (keep:List Nat) (V : α→List AV) (O : α→List (Option bh)) (I : α→Prop) (μ : α→Nat) (x : α) (hx:I x)
 (hv:gi aw keep L st=V x) (ho:ep aw keep L st=O x)
 (hmono:∀ (Q Q':QL),(∀ e L st,Q e L st→Q' e L st)→∀ L st,B Q L st→B Q' L st)
 (step:∀ x,I x→B (uq aw keep (fun vs os=>∃ y,I y ∧ μ y < μ x∧vs=V y∧os=O y) Q) (gu keep (V x)) (bk (O x))):qo aw B Q L st:=
 qo.arb keep V O I μ x hx (by rw [hv,ho];exact .refl _ _ _) hmono (fun x hi=>hmono _ _ (fun e L' st' hq=>by
  cases e with
  |normal=>
   obtain ⟨y,h1,h2,h3,h4⟩:=hq
   refine ⟨y,h1,h2,?_⟩
   rw [h3,h4];exact .refl _ _ _
  |exit id=>exact hq
  |ret=>exact hq) _ _ (step x hi))
theorem Bv (h:Tr bh):∀ (F:List Nat) (o:Nat),(∀ p ∈ F,p≤dk)→(pc h F).get o=if o ∈ F then h.get o else none
 | [],o,_=>by simp [pc,Tr.get_nil]
 |p::r,o,hl=>by
  rw [pc,i7 _ _ _ _ (hl p (by simp)),Bv h r o (fun q hq=>hl q (by simp [hq]))]
  by_cases e:o=p
  ·subst e;simp
  ·rw [if_neg e];simp [e]
theorem ze (h1 h:Tr bh):∀ (F:List Nat) (o:Nat),(∀ p ∈ F,p≤dk)→(su h1 F h).get o=if o ∈ F then h1.get o else h.get o
 | [],o,_=>by simp [su]
 |p::r,o,hl=>by
  rw [su,i7 _ _ _ _ (hl p (by simp)),ze h1 h r o (fun q hq=>hl q (by simp [hq]))]
  by_cases e:o=p
  ·subst e;simp
  ·rw [if_neg e];simp [e]
theorem Ok.part {g h hm w} (hok:Ok g h w) (hs:∀ o x,hm.get o=some x→h.get o=some x):Ok g hm w:=
 ⟨hok.size,fun o x hx=>hok.qi o x (hs o x hx),fun o o' x x' b base base' hne hx hx'=>hok.sep o o' x x' b base base' hne (hs o x hx) (hs o' x' hx'),hok.K⟩
theorem ajk {g h hm w lo hi g' hm' w' h'} {S:Nat→Prop} (hok:Ok g h w) (hs:∀ o x,hm.get o=some x→h.get o=some x) (hdom:∀ o x,hm.get o=some x→S o)
 (hstep:Step g hm w lo hi g' hm' w') (hok':Ok g' hm' w') (h1:∀ o,S o→h'.get o=hm'.get o) (h2:∀ o,¬ S o→h'.get o=h.get o) (h3:∀ o,lo≤o→o<hi→S o) :
 Step g h w lo hi g' h' w'∧Ok g' h' w':=by
 have notown:∀ o x b base,h.get o=some x→¬ S o→g.inj o=some (b,base)→∀ o' base',(hm.get o').isSome=true→g.inj o'≠some (b,base'):=by
  intro o x b base ho hS hb o' base' ho' hb'
  obtain ⟨y,hy⟩:=Option.isSome_iff_exists.1 ho'
  have hne:o≠o':=fun e=>hS (by rw [e];exact hdom o' y hy)
  exact hok.sep o o' x y b base base' hne ho (hs o' y hy) hb hb'
 have Nk:∀ o x,h'.get o=some x→¬ S o→(g'.inj o=none∧Gd x)∨∃ b base,g.inj o=some (b,base)∧g.b0≤b∧b<w.heap.size∧h.get o=some x∧nh g' w' b base x:=by
  intro o x hx hS
  rw [h2 o hS] at hx
  refine (hok.qi o x hx).imp (fun q=>⟨hstep.fresh o q.1 (fun hr=>hS (h3 o hr.1 hr.2)),q.2⟩) ?_
  rintro ⟨b,base,q1,q2,q3⟩
  refine ⟨b,base,q1,q2,q3.lt,hx,q3.ext hstep.ext (hstep.frame b q3.lt (notown o x b base hx hS q1)) (fun j hj=>?_)⟩
  rcases hstep.oh b j hj with h3|h3|⟨o',base',h3,h4⟩
  ·exact h3
  ·have:=q3.lt;omega
  ·exact (notown o x b base hx hS q1 o' base' h3 h4).elim
 have cls:∀ o:Nat,S o∨¬ S o:=fun o=>Classical.em _
 refine ⟨⟨hstep.ext,hstep.size,hstep.os,hstep.tape,hstep.output,fun b hb hn=>?_,hstep.fresh,fun o b base ho hj=>?_,fun b j hK=>?_⟩,⟨?_,fun o x hx=>?_,fun o o' x x' b base base' hne hx hx' hb hb'=>?_,hok'.K⟩⟩
 ·refine hstep.frame b hb (fun o base ho hj=>?_)
  obtain ⟨y,hy⟩:=Option.isSome_iff_exists.1 ho
  exact hn o base (by rw [hs o y hy];rfl) hj
 ·obtain ⟨x,hx⟩:=Option.isSome_iff_exists.1 ho
  rcases cls o with hS|hS
  ·rw [h1 o hS] at hx
   rcases hstep.own o b base (by rw [hx];rfl) hj with h3|⟨o',base',h3,h4⟩
   ·exact .inl h3
   ·obtain ⟨y,hy⟩:=Option.isSome_iff_exists.1 h3
    exact .inr ⟨o',base',by rw [hs o' y hy];rfl,h4⟩
  ·rcases Nk o x hx hS with ⟨q0,_⟩|⟨b',base',q1,q2,q3,q4,q5⟩
   ·rw [q0] at hj;cases hj
   have:=hstep.ext.inj o _ q1
   rw [hj] at this
   cases this
   exact .inr ⟨o,base,by rw [q4];rfl,q1⟩
 ·rcases hstep.oh b j hK with h3|h3|⟨o',base',h3,h4⟩
  ·exact .inl h3
  ·exact .inr (.inl h3)
  ·obtain ⟨y,hy⟩:=Option.isSome_iff_exists.1 h3
   exact .inr (.inr ⟨o',base',by rw [hs o' y hy];rfl,h4⟩)
 ·exact hok'.size
 ·rcases cls o with hS|hS
  ·rw [h1 o hS] at hx;exact hok'.qi o x hx
  ·refine (Nk o x hx hS).imp id ?_
   rintro ⟨b',base',q1,q2,q3,q4,q5⟩
   exact ⟨b',base',hstep.ext.inj o _ q1,by rw [hstep.ext.b0];exact q2,q5⟩
 ·rcases cls o with hS|hS
  ·rcases cls o' with hS'|hS'
   ·rw [h1 o hS] at hx
    rw [h1 o' hS'] at hx'
    exact hok'.sep o o' x x' b base base' hne hx hx' hb hb'
   ·rcases Nk o' x' hx' hS' with ⟨q0,_⟩|⟨b1,base1,q1,q2,q3,q4,q5⟩
    ·rw [q0] at hb';cases hb'
    have:=hstep.ext.inj o' _ q1
    rw [hb'] at this;cases this
    rw [h1 o hS] at hx
    rcases hstep.own o b base (by rw [hx];rfl) hb with h3|⟨o2,base2,h3,h4⟩
    ·omega
    ·exact notown o' x' b base' q4 hS' q1 o2 base2 h3 h4
  ·rcases Nk o x hx hS with ⟨q0,_⟩|⟨b1,base1,q1,q2,q3,q4,q5⟩
   ·rw [q0] at hb;cases hb
   have:=hstep.ext.inj o _ q1
   rw [hb] at this;cases this
   rcases cls o' with hS'|hS'
   ·rw [h1 o' hS'] at hx'
    rcases hstep.own o' b base' (by rw [hx'];rfl) hb' with h3|⟨o2,base2,h3,h4⟩
    ·omega
    ·exact notown o x b base q4 hS q1 o2 base2 h3 h4
   ·rcases Nk o' x' hx' hS' with ⟨q0,_⟩|⟨b2,base2,r1,r2,r3,r4,r5⟩
    ·rw [q0] at hb';cases hb'
    have:=hstep.ext.inj o' _ r1
    rw [hb'] at this;cases this
    exact hok.sep o o' x x' b base base' hne q4 r4 q1 r1
theorem Step.both {g h w lo hi g' h' w' g'' h'' w''} (s:Step g h w lo hi g' h' w') (t:Step g' h' w' lo hi g'' h'' w''):Step g h w lo hi g'' h'' w'':=by
 refine ⟨s.ext.trans t.ext,Nat.le_trans s.size t.size,t.os.trans s.os,t.tape.trans s.tape,t.output.trans s.output,fun b hb hn=>?_,fun o ho hr=>t.fresh o (s.fresh o ho hr) hr,fun o b base ho hj=>?_,fun b j hK=>?_⟩
 ·rw [t.frame b (Nat.lt_of_lt_of_le hb s.size) (fun o base ho hj=>?_),s.frame b hb hn]
  rcases s.own o b base ho hj with hge|⟨o',base',ho',hj'⟩
  ·omega
  ·exact hn o' base' ho' hj'
 ·rcases t.own o b base ho hj with hge|⟨o',base',ho',hj'⟩
  ·exact .inl (Nat.le_trans s.size hge)
  ·exact s.own o' b base' ho' hj'
 ·rcases t.oh b j hK with h|hge|⟨o',base',ho',hj'⟩
  ·exact s.oh b j h
  ·exact .inr (.inl (Nat.le_trans s.size hge))
  ·rcases s.own o' b base' ho' hj' with hge|hx
   ·exact .inr (.inl hge)
   ·exact .inr (.inr hx)
structure DS where
 o:Oper
 L:SL
 st:St
 want:Bool
 v:AV
 ff:St
 R:List Nat
 W:List Nat
def Tj (ops:Array Oper) (L:SL) (o:Oper):Option Bool:=
 match o.guard with
 |none=>some true
 |some (j,b)=>Az (lk L (tj ops j)) b
structure DSRun (P:Program) (T:ec) (d:DS):Prop where
 run:d.want=true→gx P T d.o (di d.o d.L) { h:=pc d.st.h d.R,nx:=d.st.nx,rl:=[],wl:=[] }=some (d.v,d.ff)∧(∀ p ∈ d.R,p<d.st.nx)∧d.ff.nx≤dk ∧
  (∀ o,o ∈ d.W↔(o ∈ d.W∧o ∈ d.R)∨(d.st.nx≤o∧o<d.ff.nx))∧(∀ o ∈ d.R,o ∉ d.W→d.st.h.get o=d.ff.h.get o)
 skip:d.want=false→d.v = .sc undef∧d.ff.nx=d.st.nx∧d.R=[]∧d.W=[]
structure ax5 (P:Program) (T:ec) (ops:Array Oper) (d:DS):Prop extends DSRun P T d where
 g:Tj ops d.L d.o=some d.want
def DS.ait (d:DS):SL:=m4 d.o.dst d.v d.L
noncomputable def DS.next (d:DS):St:=bif d.want then { h:=su d.ff.h (d.R++dx d.st.nx (d.ff.nx - d.st.nx)) d.st.h,nx:=d.ff.nx,rl:=[],wl:=[] } else d.st
def Ys:List DS→SL→St→SL→St→Prop
 | [],L,st,L',st'=>L'=L∧st'=st
 |d::r,L,st,L',st'=>d.L=L∧d.st=st∧Ys r d.ait d.next L' st'
theorem ad8 {ops:Array Oper} {L:SL} {o:Oper} {x y:Prop} (h:guarded ops L o.guard x y):∃ b,Tj ops L o=some b∧(b=true→x)∧(b=false→y):=by
 unfold guarded at h
 unfold Tj
 cases hg:o.guard with
 |none=>rw [hg] at h;exact ⟨true,rfl,fun _=>h,fun e=>by cases e⟩
 |some q=>
  obtain ⟨j,b⟩:=q
  rw [hg] at h
  exact Rf h
theorem ap5 {ops:Array Oper} {L:SL} {gd:Option (Nat × Bool)} {x y x' y':Prop} (h1:x→x') (h2:y→y') (h:guarded ops L gd x y):guarded ops L gd x' y':=by
 unfold guarded at *
 split at h
 ·exact h1 h
 ·unfold zh at *
  split at h
  ·exact ⟨fun e=>h1 (h.1 e),fun e=>h2 (h.2 e)⟩
  ·exact h.elim
theorem Qh {P:Program} {T:ec} {o:Oper} {recs:List Rec} {K K':List Rec→SL→St→Prop} {L:SL} {st:St} (hk:∀ r L st,K r L st→K' r L st) (h:Yr P T o recs K L st):Yr P T o recs K' L st:=by
 obtain ⟨F,W,v,ff,h1,h2,h3,h4,h5,h6⟩:=h
 exact ⟨F,W,v,ff,h1,h2,h3,h4,h5,hk _ _ _ h6⟩
theorem ac0 {P:Program} [KP P] {T:ec} {ops:Array Oper} {K:SL→St→Prop}:∀ (l:List Oper) (recs:List Rec) (L:SL) (st:St),Dh P T ops l K recs L st→Kh P T ops l K recs L st
 | [],_,_,_,h=>h
 |o::r,recs,L,st,h=>ap5 (fun q=>Qh (fun _ _ _ k=>ac0 r _ _ _ k) (aui q)) (fun q=>ac0 r _ _ _ q) h
theorem apr {P:Program} [KP P] {T:ec} {ops:Array Oper} {K:SL→St→Prop}:∀ (l:List Oper) (L:SL) (st:St) (recs:List Rec),Kh P T ops l K recs L st →
 ∃ ds L' st',ds.map (·.o)=l∧(∀ d ∈ ds,ax5 P T ops d)∧Ys ds L st L' st'∧eu (Region.before ops) 0 (recs++ds.map fun d=>⟨d.R,d.W⟩)=true∧K L' st':=by
 intro l
 induction l with
 |nil=>intro L st recs h;exact ⟨[],L,st,rfl,by simp,⟨rfl,rfl⟩,by simpa using h.1,h.2⟩
 |cons o l ih=>
  intro L st recs h
  obtain ⟨b,hb,h1,h2⟩:=ad8 h
  cases b with
  |true=>
   obtain ⟨F,W,v,ff,hop,h4,h5,h6,h7,h8⟩:=h1 rfl
   obtain ⟨ds,L',st',e1,e2,e3,e4,e5⟩:=ih _ _ _ h8
   have hle:=Dd hop
   refine ⟨{ o,L,st,want:=true,v,ff,R:=F,W:=W++dx st.nx (ff.nx - st.nx) }::ds,L',st',by simp [e1],?_,⟨rfl,rfl,?_⟩,?_,e5⟩
   ·intro d hd
    rcases List.mem_cons.1 hd with rfl|hd
    ·refine ⟨⟨fun _=>⟨hop,h6,h7,fun q=>?_,fun q hq hn=>?_⟩,fun e=>by cases e⟩,hb⟩
     ·simp only [List.mem_append,m7]
      constructor
      ·rintro (hq|hq)
       ·exact .inl ⟨.inl hq,h4 q hq⟩
       ·exact .inr ⟨hq.1,by simp at hle;omega⟩
      ·rintro (hq|hq)
       ·exact hq.1
       ·exact .inr ⟨hq.1,by omega⟩
     ·have:=h5 q hq (fun hw=>hn (List.mem_append.2 (.inl hw)))
      rw [Bv _ _ _ (fun p hp=>by have:=h6 p hp;simp at hle;omega),if_pos hq] at this
      exact this
    ·exact e2 d hd
   ·exact e3
   ·simpa [List.append_assoc] using e4
  |false=>
   have h3:=h2 rfl
   obtain ⟨ds,L',st',e1,e2,e3,e4,e5⟩:=ih _ _ _ h3
   refine ⟨{ o,L,st,want:=false,v:=.sc undef,ff:=st,R:=[],W:=[] }::ds,L',st',by simp [e1],?_,⟨rfl,rfl,?_⟩,?_,e5⟩
   ·intro d hd
    rcases List.mem_cons.1 hd with rfl|hd
    ·exact ⟨⟨(fun e=>by cases e),fun _=>⟨rfl,rfl,rfl,rfl⟩⟩,hb⟩
    ·exact e2 d hd
   ·exact e3
   ·simpa [List.append_assoc] using e4
noncomputable def kx (ds:List DS) (h0:Tr bh) (D:Nat→Bool):Nat→Nat→Option bh
 |0,o=>h0.get o
 |m+1,o=>
  match ds[m]? with
  |some d=>if D m=true∧o ∈ d.W then d.ff.h.get o else kx ds h0 D m o
  |none=>kx ds h0 D m o
def ku (ds:List DS) (L0:SL) (D:Nat→Bool):Nat→Nat→AV
 |0,t=>lk L0 t
 |m+1,t=>
  match ds[m]? with
  |some d=>if D m=true∧d.o.dst=some t then d.v else ku ds L0 D m t
  |none=>ku ds L0 D m t
def nf (ds:List DS) (n0:Nat):Nat→Nat
 |0=>n0
 |m+1=>
  match ds[m]? with
  |some d=>d.ff.nx
  |none=>nf ds n0 m
theorem avq (dst:Option Tmp) (v:AV) (L:SL) (t:Nat):lk (m4 dst v L) t=if dst=some t then v else lk L t:=by
 cases dst with
 |none=>simp [m4]
 |some d=>simp [m4,s7]
theorem arl {P:Program} [KP P] {T:ec} {ds:List DS} {L0:SL} {st0:St} {L':SL} {st':St} (hds:∀ d ∈ ds,DSRun P T d) (hc:Ys ds L0 st0 L' st') :
 (∀ i d,ds[i]? = some d→(∀ t,lk d.L t=ku ds L0 (fun _=>true) i t)∧(∀ o,d.st.h.get o=kx ds st0.h (fun _=>true) i o)∧d.st.nx=nf ds st0.nx i∧d.st.nx≤d.ff.nx) ∧
 (∀ t,lk L' t=ku ds L0 (fun _=>true) ds.length t)∧(∀ o,st'.h.get o=kx ds st0.h (fun _=>true) ds.length o)∧st'.nx=nf ds st0.nx ds.length:=by
 have key:∀ (k:Nat) (r:List DS) (L:SL) (st:St),ds.drop k=r→k≤ds.length→Ys r L st L' st'→(∀ t,lk L t=ku ds L0 (fun _=>true) k t)→(∀ o,st.h.get o=kx ds st0.h (fun _=>true) k o)→st.nx=nf ds st0.nx k →
  (∀ i d,k≤i→ds[i]? = some d→(∀ t,lk d.L t=ku ds L0 (fun _=>true) i t)∧(∀ o,d.st.h.get o=kx ds st0.h (fun _=>true) i o)∧d.st.nx=nf ds st0.nx i∧d.st.nx≤d.ff.nx) ∧
  (∀ t,lk L' t=ku ds L0 (fun _=>true) ds.length t)∧(∀ o,st'.h.get o=kx ds st0.h (fun _=>true) ds.length o)∧st'.nx=nf ds st0.nx ds.length:=by
  intro k r
  induction r generalizing k with
  |nil=>
   intro L st hr hk hch h1 h2 h3
   have hlen:k=ds.length:=by
    have:=congrArg List.length hr;simp at this;omega
   obtain ⟨rfl,rfl⟩:=hch
   subst hlen
   refine ⟨fun i d hi hd=>?_,h1,h2,h3⟩
   rw [List.getElem?_eq_none hi] at hd;cases hd
  |cons d r ih=>
   intro L st hr hk hch h1 h2 h3
   obtain ⟨rfl,rfl,hch⟩:=hch
   have hk':k<ds.length:=by
    rcases Nat.lt_or_ge k ds.length with h|h
    ·exact h
    ·rw [List.drop_eq_nil_of_le h] at hr;cases hr
   rw [List.drop_eq_getElem_cons hk'] at hr
   injection hr with hd hr
   have hdk:ds[k]? = some d:=by rw [List.getElem?_eq_getElem hk',hd]
   have hok:=hds d (List.mem_of_getElem? hdk)
   have hle:d.st.nx≤d.ff.nx:=by
    cases hw:d.want with
    |true=>have:=Dd (hok.run hw).1;exact this
    |false=>rw [(hok.skip hw).2.1];exact Nat.le_refl _
   have hn:=ih (k+1) d.ait d.next hr hk' hch (fun t=>?_) (fun o=>?_) ?_
   ·refine ⟨fun i d' hi hd'=>?_,hn.2⟩
    rcases Nat.lt_or_ge k i with h|h
    ·exact hn.1 i d' h hd'
    ·have:i=k:=by omega
     subst this
     rw [hdk] at hd';cases hd'
     exact ⟨h1,h2,h3,hle⟩
   ·rw [DS.ait,avq,ku,hdk]
    simp only [true_and]
    split
    ·rfl
    ·exact h1 t
   ·rw [DS.next,kx,hdk]
    cases hw:d.want with
    |true=>
     obtain ⟨r1,r2,r3,r4,r5⟩:=hok.run hw
     simp only [cond_true,true_and]
     rw [ze _ _ _ _ (fun p hp=>by
      rcases List.mem_append.1 hp with hp|hp
      ·have:=r2 p hp;omega
      ·rw [m7] at hp;omega)]
     by_cases hW:o ∈ d.W
     ·rw [if_pos hW,if_pos]
      rcases (r4 o).1 hW with hq|hq
      ·exact List.mem_append.2 (.inl hq.2)
      ·exact List.mem_append.2 (.inr (by rw [m7];omega))
     ·rw [if_neg hW]
      by_cases hR:o ∈ d.R
      ·rw [if_pos (List.mem_append.2 (.inl hR)),← r5 o hR hW,h2 o]
      ·rw [if_neg,h2 o]
       intro hm
       rcases List.mem_append.1 hm with hm|hm
       ·exact hR hm
       ·rw [m7] at hm
        exact hW ((r4 o).2 (.inr (by omega)))
    |false=>
     obtain ⟨s1,s2,s3,s4⟩:=hok.skip hw
     simp only [cond_false,s4,List.not_mem_nil,and_false,if_false]
     exact h2 o
   ·rw [DS.next,nf,hdk]
    cases hw:d.want with
    |true=>rfl
    |false=>exact (hok.skip hw).2.1.symm
 have:=key 0 ds L0 st0 rfl (Nat.zero_le _) hc (fun t=>rfl) (fun o=>rfl) rfl
 exact ⟨fun i d hd=>this.1 i d (Nat.zero_le _) hd,this.2⟩
theorem Wc {ds:List DS} {h0:Tr bh} {D:Nat→Bool} {i:Nat} {o:Nat} (h:∀ k d,ds[k]? = some d→o ∈ d.W→(D k=true↔k<i)):∀ m,kx ds h0 D m o=kx ds h0 (fun _=>true) (min m i) o
 |0=>by simp [kx]
 |m+1=>by
  have ih:=Wc (h0:=h0) h m
  rw [kx]
  cases hd:ds[m]? with
  |none=>
   rcases Nat.lt_or_ge m i with hm|hm
   ·rw [show min (m+1) i=m+1 from by omega,kx,hd];simp only;rw [ih,show min m i=m from by omega]
   ·simp only;rw [ih,show min (m+1) i=min m i from by omega]
  |some d=>
   simp only
   rcases Nat.lt_or_ge m i with hm|hm
   ·rw [show min (m+1) i=m+1 from by omega,kx,hd]
    simp only
    by_cases hW:o ∈ d.W
    ·rw [if_pos ⟨(h m d hd hW).2 hm,hW⟩,if_pos ⟨by simp,hW⟩]
    ·rw [if_neg (fun e=>hW e.2),if_neg (fun e=>hW e.2),ih,show min m i=m from by omega]
   ·rw [if_neg (fun e=>by have:=(h m d hd e.2).1 e.1;omega),ih,show min (m+1) i=min m i from by omega]
theorem W4 {ds:List DS} {L0:SL} {D:Nat→Bool} {i:Nat} {t:Nat} (h:∀ k d,ds[k]? = some d→d.o.dst=some t→(D k=true↔k<i)):∀ m,ku ds L0 D m t=ku ds L0 (fun _=>true) (min m i) t
 |0=>by simp [ku]
 |m+1=>by
  have ih:=W4 (L0:=L0) h m
  rw [ku]
  cases hd:ds[m]? with
  |none=>
   rcases Nat.lt_or_ge m i with hm|hm
   ·rw [show min (m+1) i=m+1 from by omega,ku,hd];simp only;rw [ih,show min m i=m from by omega]
   ·simp only;rw [ih,show min (m+1) i=min m i from by omega]
  |some d=>
   simp only
   rcases Nat.lt_or_ge m i with hm|hm
   ·rw [show min (m+1) i=m+1 from by omega,ku,hd]
    simp only
    by_cases hW:d.o.dst=some t
    ·rw [if_pos ⟨(h m d hd hW).2 hm,hW⟩,if_pos ⟨by simp,hW⟩]
    ·rw [if_neg (fun e=>hW e.2),if_neg (fun e=>hW e.2),ih,show min m i=m from by omega]
   ·rw [if_neg (fun e=>by have:=(h m d hd e.2).1 e.1;omega),ih,show min (m+1) i=min m i from by omega]
def tt (D:Nat→Bool) (i:Nat):Nat→Bool:=fun k=>if k=i then true else D k
theorem acw {ds:List DS} {h0:Tr bh} {D:Nat→Bool} {i:Nat} {d:DS} {o:Nat} (hi:ds[i]? = some d) (h:o ∈ d.W→∀ k e,ds[k]? = some e→i<k→o ∈ e.W→D k=false) :
 ∀ m,kx ds h0 (tt D i) m o=if o ∈ d.W∧i<m then d.ff.h.get o else kx ds h0 D m o
 |0=>by simp [kx]
 |m+1=>by
  have ih:=acw (h0:=h0) hi h m
  rw [kx]
  cases hd:ds[m]? with
  |none=>
   simp only
   rw [ih,kx,hd]
   have:m≠i:=fun e=>by subst e;rw [hi] at hd;cases hd
   by_cases hm:i<m
   ·simp [hm,Nat.lt_succ_of_lt hm]
   ·simp [hm,show ¬ i<m+1 from by omega]
  |some e=>
   simp only
   rw [kx,hd]
   by_cases hm:m=i
   ·subst hm
    rw [hi] at hd;cases hd
    simp only [tt,if_true,true_and]
    by_cases hW:o ∈ d.W
    ·simp [hW]
    ·rw [ih];simp [hW]
   ·simp only [tt,if_neg hm]
    by_cases hW:o ∈ d.W
    ·by_cases hlt:i<m
     ·by_cases he:o ∈ e.W
      ·have:=h hW m e hd hlt he
       rw [this,if_neg (by simp),ih]
       simp [hW,hlt,Nat.lt_succ_of_lt hlt]
      ·rw [if_neg (fun q=>he q.2),ih]
       simp [hW,hlt,Nat.lt_succ_of_lt hlt]
     ·have hl2:¬ i<m+1:=by omega
      rw [ih];simp [hlt,hl2]
    ·rw [ih];simp [hW]
theorem aco {ds:List DS} {L0:SL} {D:Nat→Bool} {i:Nat} {d:DS} {t:Nat} (hi:ds[i]? = some d) (h:d.o.dst=some t→∀ k e,ds[k]? = some e→i<k→e.o.dst=some t→D k=false) :
 ∀ m,ku ds L0 (tt D i) m t=if d.o.dst=some t∧i<m then d.v else ku ds L0 D m t
 |0=>by simp [ku]
 |m+1=>by
  have ih:=aco (L0:=L0) hi h m
  rw [ku]
  cases hd:ds[m]? with
  |none=>
   simp only
   rw [ih,ku,hd]
   have:m≠i:=fun e=>by subst e;rw [hi] at hd;cases hd
   by_cases hm:i<m
   ·simp [hm,Nat.lt_succ_of_lt hm]
   ·simp [hm,show ¬ i<m+1 from by omega]
  |some e=>
   simp only
   rw [ku,hd]
   by_cases hm:m=i
   ·subst hm
    rw [hi] at hd;cases hd
    simp only [tt,if_true,true_and]
    by_cases hW:d.o.dst=some t
    ·simp [hW]
    ·rw [ih];simp [hW]
   ·simp only [tt,if_neg hm]
    by_cases hW:d.o.dst=some t
    ·by_cases hlt:i<m
     ·by_cases he:e.o.dst=some t
      ·have:=h hW m e hd hlt he
       rw [this,if_neg (by simp),ih]
       simp [hW,hlt,Nat.lt_succ_of_lt hlt]
      ·rw [if_neg (fun q=>he q.2),ih]
       simp [hW,hlt,Nat.lt_succ_of_lt hlt]
     ·have hl2:¬ i<m+1:=by omega
      rw [ih];simp [hlt,hl2]
    ·rw [ih];simp [hW]
theorem Qc {acc:Array Nat} {k:Nat}:∀ (l:List Edge) (s0:Nat),(l.foldl (fun s e=>if Region.binds .any e then s ||| 2 ^ e.on ||| acc.getD e.on 0 else s) s0).testBit k=true →
 s0.testBit k=true∨∃ e ∈ l,Region.binds .any e=true∧(k=e.on∨(acc.getD e.on 0).testBit k=true)
 | [],s0,h=>.inl h
 |e::l,s0,h=>by
  simp only [List.foldl_cons] at h
  rcases Qc l _ h with h1|⟨e',he,h1,h2⟩
  ·by_cases hb:Region.binds .any e=true
   ·rw [if_pos hb] at h1
    simp only [Nat.testBit_or,Bool.or_eq_true,Nat.testBit_two_pow,decide_eq_true_eq] at h1
    rcases h1 with (h1|h1)|h1
    ·exact .inl h1
    ·exact .inr ⟨e,by simp,hb,.inl h1.symm⟩
    ·exact .inr ⟨e,by simp,hb,.inr h1⟩
   ·rw [if_neg hb] at h1;exact .inl h1
  ·exact .inr ⟨e',by simp [he],h1,h2⟩
def nw (acc:Array Nat) (o:Oper):Array Nat:=acc.push (o.after.foldl (fun s e=>if Region.binds .any e then s ||| 2 ^ e.on ||| acc.getD e.on 0 else s) 0)
theorem ad9 (ops:Array Oper):Region.before ops=ops.toList.foldl nw #[]:=by
 unfold Region.before
 rw [← Array.foldl_toList]
 rfl
theorem El {a:Array Nat} {i k:Nat} (h:(a.getD i 0).testBit k=true):i<a.size:=by
 rcases Nat.lt_or_ge i a.size with h1|h1
 ·exact h1
 ·rw [Array.getD_eq_getD_getElem?,Array.getElem?_eq_none h1] at h
  simp at h
theorem aq0 (l:List Oper):(l.foldl nw #[]).size=l.length∧∀ i k,((l.foldl nw #[]).getD i 0).testBit k=true →
 ∃ o,l[i]? = some o∧∃ e ∈ o.after,Region.binds .any e=true∧(k=e.on∨((l.foldl nw #[]).getD e.on 0).testBit k=true):=by
 suffices h:∀ r:List Oper,(r.reverse.foldl nw #[]).size=r.length∧∀ i k,((r.reverse.foldl nw #[]).getD i 0).testBit k=true →
  ∃ o,r.reverse[i]? = some o∧∃ e ∈ o.after,Region.binds .any e=true∧(k=e.on∨((r.reverse.foldl nw #[]).getD e.on 0).testBit k=true) by
  have:=h l.reverse
  simpa using this
 intro r
 induction r with
 |nil=>exact ⟨rfl,fun i k h=>by have:=El h;simp at this⟩
 |cons o r ih=>
  rw [List.reverse_cons,List.foldl_append]
  generalize hb:r.reverse.foldl nw #[]=b at ih
  obtain ⟨h1,h2⟩:=ih
  simp only [List.foldl_cons,List.foldl_nil]
  have hsz:(nw b o).size=r.length+1:=by simp [nw,h1]
  have ed:∀ i,i<b.size→(nw b o).getD i 0=b.getD i 0:=by
   intro i hi
   simp only [nw,Array.getD_eq_getD_getElem?,Array.getElem?_push]
   rw [if_neg (by omega)]
  refine ⟨by simpa using hsz,fun i k h=>?_⟩
  have hi:=El h
  rw [hsz] at hi
  by_cases hlt:i<b.size
  ·rw [ed i hlt] at h
   obtain ⟨o',ho,e,he,hbn,hk⟩:=h2 i k h
   refine ⟨o',by rw [List.getElem?_append_left (by simp;omega)];exact ho,e,he,hbn,hk.imp id fun hk=>?_⟩
   rw [ed _ (El hk)];exact hk
  ·have hie:i=r.length:=by omega
   have hv:(nw b o).getD i 0=o.after.foldl (fun s e=>if Region.binds .any e then s ||| 2 ^ e.on ||| b.getD e.on 0 else s) 0:=by
    simp only [nw,Array.getD_eq_getD_getElem?,Array.getElem?_push]
    rw [if_pos (by omega)];rfl
   rw [hv,← Array.foldl_toList] at h
   rcases Qc _ _ h with h3|⟨e,he,hbn,hk⟩
   ·simp at h3
   ·refine ⟨o,by rw [List.getElem?_append_right (by simp;omega)];simp [hie],e,by simpa using he,hbn,hk.imp id fun hk=>?_⟩
    rw [ed _ (El hk)];exact hk
theorem ad4 {ops:Array Oper} {i k:Nat} (h:((Region.before ops).getD i 0).testBit k=true) :
 ∃ o,ops[i]? = some o∧∃ e ∈ o.after,Region.binds .any e=true∧(k=e.on∨((Region.before ops).getD e.on 0).testBit k=true):=by
 rw [ad9] at h ⊢
 obtain ⟨o,ho,r⟩:=(aq0 ops.toList).2 i k h
 exact ⟨o,by simpa using ho,r⟩
theorem Va {a b:List Nat} (h:qq a b=true) {o:Nat} (ha:o ∈ a) (hb:o ∈ b):False:=(aib a b).1 h o ha hb
theorem Mz {before:Array Nat} {i:Nat} {a:Rec}:∀ (r:List Rec) (j:Nat),Lj before i a j r=true→∀ k b,r[k]? = some b→G6 before i (j+k) a b=true
 | [],j,_,k,b,h=>by simp at h
 |c::r,j,h,k,b,hk=>by
  simp only [Lj,Bool.and_eq_true] at h
  cases k with
  |zero=>simp at hk;subst hk;exact h.1
  |succ k=>have:=Mz r (j+1) h.2 k b (by simpa using hk);rwa [show j+1+k=j+(k+1) from by omega] at this
theorem Oj {before:Array Nat}:∀ (r:List Rec) (j:Nat),eu before j r=true→∀ i k a b,i<k→r[i]? = some a→r[k]? = some b→G6 before (j+i) (j+k) a b=true
 | [],j,_,i,k,a,b,_,h,_=>by simp at h
 |c::r,j,h,i,k,a,b,hlt,hi,hk=>by
  simp only [eu,Bool.and_eq_true] at h
  obtain ⟨k,rfl⟩:∃ q,k=q+1:=⟨k - 1,by omega⟩
  cases i with
  |zero=>simp at hi;subst hi;have:=Mz r (j+1) h.1 k b (by simpa using hk);rwa [show j+1+k=j+(k+1) from by omega] at this
  |succ i=>
   have:=Oj r (j+1) h.2 i k a b (by omega) (by simpa using hi) (by simpa using hk)
   rwa [show j+1+i=j+(i+1) from by omega,show j+1+k=j+(k+1) from by omega] at this
def Fm (ops:Array Oper) (D:Nat→Bool):Prop:=∀ i k,D i=true→((Region.before ops).getD i 0).testBit k=true→D k=true
theorem Df {ops:Array Oper} {D:Nat→Bool} {i:Nat} {o:Oper} (hc:Fm ops D) (ho:ops[i]? = some o) (hr:∀ e ∈ o.after,Region.binds .any e=true→D e.on=true) :
 ∀ k,((Region.before ops).getD i 0).testBit k=true→D k=true:=by
 intro k hk
 obtain ⟨o',ho',e,he,hb,h⟩:=ad4 hk
 rw [ho] at ho';cases ho'
 rcases h with rfl|h
 ·exact hr e he hb
 ·exact hc e.on k (hr e he hb) h
theorem Fm.tt {ops:Array Oper} {D:Nat→Bool} {i:Nat} {o:Oper} (hc:Fm ops D) (ho:ops[i]? = some o) (hr:∀ e ∈ o.after,Region.binds .any e=true→D e.on=true):Fm ops (tt D i):=by
 intro j k hj hk
 have:D k=true:=by
  by_cases e:j=i
  ·subst e;exact Df hc ho hr k hk
  ·simp only [Vm.tt,if_neg e] at hj;exact hc j k hj hk
 simp only [Vm.tt];split
 ·rfl
 ·exact this
def left (D:Nat→Bool):Nat→Nat
 |0=>0
 |m+1=>left D m+(bif D m then 0 else 1)
theorem abo {D:Nat→Bool} {i:Nat} (hi:D i=false):∀ m,left (tt D i) m+(if i<m then 1 else 0)=left D m
 |0=>by simp [left]
 |m+1=>by
  have ih:=abo hi m
  simp only [left,tt]
  by_cases e:m=i
  ·subst e
   simp only [if_true,cond_true,hi,cond_false] at *
   simp only [Nat.lt_irrefl,if_false,Nat.lt_succ_self,if_true] at *
   omega
  ·rw [if_neg e]
   by_cases h:i<m
   ·rw [if_pos h] at ih;rw [if_pos (by omega)];omega
   ·rw [if_neg h] at ih;rw [if_neg (by omega)];omega
theorem Vd {D:Nat→Bool}:∀ m,left D m=0→∀ k,k<m→D k=true
 |0,_,k,h=>by omega
 |m+1,h,k,hk=>by
  simp only [left] at h
  by_cases e:k=m
  ·subst e
   cases hd:D k with
   |true=>rfl
   |false=>rw [hd] at h;simp at h
  ·exact Vd m (by omega) k (by omega)
theorem Qt {D:Nat→Bool}:∀ m,(∃ k,k<m∧D k=false)→∃ k,k<m∧D k=false∧∀ j,j<k→D j=true
 |0,⟨k,h,_⟩=>by omega
 |m+1,⟨k,hk,hd⟩=>by
  by_cases h:∃ k,k<m∧D k=false
  ·obtain ⟨j,h1,h2,h3⟩:=Qt m h;exact ⟨j,by omega,h2,h3⟩
  ·have hall:∀ j,j<m→D j=true:=fun j hj=>by
    cases hdj:D j with
    |true=>rfl
    |false=>exact (h ⟨j,hj,hdj⟩).elim
   have:k=m:=by
    rcases Nat.lt_or_ge k m with h1|h1
    ·rw [hall k h1] at hd;cases hd
    ·omega
   subst this
   exact ⟨k,by omega,hd,hall⟩
theorem pv {ds:List DS} {n0:Nat} (h:∀ i d,ds[i]? = some d→d.st.nx=nf ds n0 i∧d.st.nx≤d.ff.nx):∀ m i,i≤m→nf ds n0 i≤nf ds n0 m
 |0,i,hi=>by rw [show i=0 from by omega];exact Nat.le_refl _
 |m+1,i,hi=>by
  by_cases e:i=m+1
  ·subst e;exact Nat.le_refl _
  ·have ih:=pv h m i (by omega)
   refine Nat.le_trans ih ?_
   rw [nf.eq_2]
   cases hd:ds[m]? with
   |none=>exact Nat.le_refl _
   |some d=>obtain ⟨h1,h2⟩:=h m d hd;simp only;omega
theorem ajq {ops:Array Oper} {o:Oper} {g w nt b} {L:SL} {tmps:Array Value} (hsz:tmps.size=nt) (hs:∀ j b,o.guard=some (j,b)→∃ d,((ops[j]?).bind (·.dst))=some d∧d<nt)
 (hr:∀ j c,o.guard=some (j,c)→Rel g w (lk L (tj ops j)) (tmps.getD (tj ops j) undef)) (h:Tj ops L o=some b):Region.wanted o (yielded ops tmps)=b:=by
 unfold Tj at h
 unfold Region.wanted
 cases hg:o.guard with
 |none=>rw [hg] at h;simpa using h
 |some q=>
  obtain ⟨j,c⟩:=q
  obtain ⟨d,hd,hlt⟩:=hs j c hg
  have hrel:=hr j c hg
  rw [hg] at h
  have hgs:tj ops j=d:=by unfold tj;rw [hd];rfl
  dsimp only at h ⊢
  rw [hgs] at h hrel
  rw [N9 c hd (by rw [hsz];exact hlt)]
  exact P7 hrel h
theorem ajf {g w} {o:Oper} {L:SL} {a:Act} (h:∀ t,(∃ x ∈ o.op.operands.toList,x = .tmp t)→Rel g w (lk L t) (a.tmps.getD t undef)):mn g w (di o L) a.eval:=by
 intro x
 cases x with
 |tmp t=>
  simp only [di]
  cases hb:o.op.operands.any (fun x=>match x with|.tmp u=>Nat.beq u t|_=>false) with
  |false=>exact .bad _
  |true=>
   rw [cond_true]
   refine h t ?_
   rw [Array.any_eq_true'] at hb
   obtain ⟨y,hy,hb⟩:=hb
   refine ⟨y,by simpa using hy,?_⟩
   cases y with
   |tmp u=>simp at hb;rw [hb]
   |_=>cases hb
 |const v=>exact .sc v
 |global g'=>exact .sc _
 |func f=>exact .sc _
structure A4 (P:Program) (T:ec) (ops:Array Oper) (ds:List DS) (L0:SL) (st0:St) (L':SL) (st':St):Prop where
 os:ds.map (·.o)=ops.toList
 ok:∀ d ∈ ds,DSRun P T d
 N4:∀ i d,ds[i]? = some d→(∀ t,lk d.L t=ku ds L0 (fun _=>true) i t)∧(∀ o,d.st.h.get o=kx ds st0.h (fun _=>true) i o)∧d.st.nx=nf ds st0.nx i∧d.st.nx≤d.ff.nx
 fin:(∀ t,lk L' t=ku ds L0 (fun _=>true) ds.length t)∧(∀ o,st'.h.get o=kx ds st0.h (fun _=>true) ds.length o)∧st'.nx=nf ds st0.nx ds.length
 slots:∀ i k a b t,i≠k→ds[i]? = some a→ds[k]? = some b→t ∈ yn ops a.o→b.o.dst=some t→((Region.before ops).getD (max i k) 0).testBit (min i k)=true
 aw6:∀ (i:Nat) o,ops[i]? = some o→∀ e ∈ o.after,Region.binds .any e=true→e.on<i
theorem A4.get {P T ops ds L0 st0 L' st'} [KP P] (h:A4 P T ops ds L0 st0 L' st') {i:Nat} {d:DS} (hd:ds[i]? = some d):ops[i]? = some d.o:=by
 have:=congrArg (·[i]?) h.os
 simp only [List.getElem?_map,hd,Option.map_some] at this
 simpa using this.symm
theorem A4.len {P T ops ds L0 st0 L' st'} [KP P] (h:A4 P T ops ds L0 st0 L' st'):ds.length=ops.size:=by
 have:=congrArg List.length h.os;simpa using this
theorem A4.has {P T ops ds L0 st0 L' st'} [KP P] (h:A4 P T ops ds L0 st0 L' st') {i:Nat} (hi:i<ops.size):∃ d,ds[i]? = some d:=⟨ds[i]'(by rw [h.len];exact hi),by simp⟩
def Calm (ops:Array Oper) (ds:List DS):Prop:=∀ i k a b,i<k→ds[i]? = some a→ds[k]? = some b→((Region.before ops).getD k 0).testBit i=true∨(qq a.W b.R=true∧qq a.W b.W=true∧qq a.R b.W=true)
theorem ada {P:Program} [KP P] {T:ec} {ops:Array Oper} {ds:List DS} {L0:SL} {st0:St} {L':SL} {st':St} (R:A4 P T ops ds L0 st0 L' st') (C:Calm ops ds) {D:Nat→Bool} {i:Nat} {d:DS} (hi:ds[i]? = some d) (hD:D i=false) (hcl:Fm ops D)
 (hr:∀ e ∈ d.o.after,Region.binds .any e=true→D e.on=true) :
 (∀ o ∈ d.R,kx ds st0.h D ds.length o=d.st.h.get o)∧∀ o,kx ds st0.h (tt D i) ds.length o=if o ∈ d.W then d.ff.h.get o else kx ds st0.h D ds.length o:=by
 have ho:=R.get hi
 have hlt:i<ds.length:=(List.getElem?_eq_some_iff.1 hi).1
 obtain ⟨a1,a2,a3,a4⟩:=R.N4 i d hi
 have hbef:=Df hcl ho hr
 have late:∀ k e,ds[k]? = some e→i<k→(qq d.W e.W=false∨qq d.R e.W=false)→D k=false:=by
  intro k e hk hik hap
  cases hDk:D k with
  |false=>rfl
  |true=>
   rcases C i k d e hik hi hk with h6|⟨_,h6,h7⟩
   ·have:=hcl k i hDk h6;rw [hD] at this;cases this
   ·rcases hap with q|q
    ·rw [h6] at q;cases q
    ·rw [h7] at q;cases q
 have noT:∀ {x y:List Nat} {o:Nat},o ∈ x→o ∈ y→qq x y=false:=by
  intro x y o hx hy
  cases he:qq x y with
  |false=>rfl
  |true=>exact (Va he hx hy).elim
 refine ⟨fun o hoR=>?_,fun o=>?_⟩
 ·have:=Wc (h0:=st0.h) (D:=D) (i:=i) (o:=o) (ds:=ds) (fun k e hk he=>?_) ds.length
  ·rw [this,a2 o];congr 1;omega
  ·rcases Nat.lt_trichotomy k i with hlt'|rfl|hgt
   ·refine ⟨fun _=>hlt',fun _=>?_⟩
    rcases C k i e d hlt' hk hi with h6|⟨h6,_,_⟩
    ·exact hbef k h6
    ·exact (Va h6 he hoR).elim
   ·exact ⟨(fun q=>by rw [hD] at q;cases q),(fun q=>by omega)⟩
   ·exact ⟨(fun q=>by have:=late k e hk hgt (.inr (noT hoR he));rw [this] at q;cases q),(fun q=>by omega)⟩
 ·rw [acw hi (fun hW k e hk hik he=>late k e hk hik (.inl (noT hW he)))]
  by_cases hW:o ∈ d.W
  ·rw [if_pos ⟨hW,hlt⟩,if_pos hW]
  ·rw [if_neg (fun q=>hW q.1),if_neg hW]
structure At (H:(Nat→Bool)→Nat→Option bh) (ops:Array Oper) (ds:List DS) (L0:SL) (g0:Gh) (st0:St) (w0:World) (df:List Deferred) (nt:NT) (hi:Nat) (D:Nat→Bool) (a:Act) (w:World):Prop where
 mem:∃ g h,(∀ o,h.get o=H D o)∧Ok g h w∧Step g0 st0.h w0 st0.nx hi g h w∧(∀ t,Rel g w (ku ds L0 D ds.length t) (a.tmps.getD t undef)) ∧
  (∀ i d,ds[i]? = some d→D i=false→∀ o,d.st.nx≤o→o<d.ff.nx→g.inj o=none)
 size:r9 nt a.tmps
 defers:a.defers=df
 closed:Fm ops D
theorem aqb {a:Act} {dst:Option Tmp} {u:Value} {t:Nat} (hd:∀ d,dst=some d→d<a.tmps.size):(a.put dst u).tmps.getD t undef=if dst=some t then u else a.tmps.getD t undef:=by
 cases dst with
 |none=>simp [Act.put]
 |some d=>
  simp only [Act.put,Array.getD_eq_getD_getElem?,Array.getElem?_setIfInBounds,Option.some.injEq]
  by_cases e:d=t
  ·subst e;rw [if_pos rfl,if_pos rfl,if_pos (hd d rfl)];rfl
  ·rw [if_neg e,if_neg e]
theorem At.step {H:(Nat→Bool)→Nat→Option bh} {P:Program} [KP P] {T:ec} (hT:Kk P T) {ops:Array Oper} {ds:List DS} {L0:SL} {g0:Gh} {st0:St} {w0:World} {df:List Deferred} {ro:Option Nat} {N:Nat} {nt:NT} {L':SL} {st':St} (R:A4 P T ops ds L0 st0 L' st') (hg:tw nt ops=true) (hdst:Be nt ops=true)
 {D:Nat→Bool} {a:Act} {w:World} {i:Nat} {d:DS} (hi:ds[i]? = some d) (hgv:Tj ops d.L d.o=some d.want) (obj:∀ o ∈ d.R,H D o=d.st.h.get o) (hupd:∀ o,H (tt D i) o=if o ∈ d.W then d.ff.h.get o else H D o) (hD:D i=false) (hr:∀ e ∈ d.o.after,Region.binds .any e=true→D e.on=true) (A:At H ops ds L0 g0 st0 w0 df nt (nf ds st0.nx ds.length) D a w)
 {Q:Exit→Act→World→Prop} {K:Act→World→Prop} (hK:∀ a' w',At H ops ds L0 g0 st0 w0 df nt (nf ds st0.nx ds.length) (tt D i) a' w'→K a' w'):wpOpIn (g8 ro) N P ops Q i K a w:=by
 have ho:=R.get hi
 have hlt:i<ds.length:=(List.getElem?_eq_some_iff.1 hi).1
 have hmem:d.o ∈ ops:=Array.mem_of_getElem? ho
 have hok:=R.ok d (List.mem_of_getElem? hi)
 obtain ⟨a1,a2,a3,a4⟩:=R.N4 i d hi
 have hbef:=Df A.closed ho hr
 have hcl:=A.closed.tt ho hr
 obtain ⟨g,h,h1,h2,h3,h4,h5⟩:=A.mem
 have slot:∀ t ∈ yn ops d.o,ku ds L0 D ds.length t=lk d.L t:=by
  intro t ht
  have:=W4 (L0:=L0) (D:=D) (i:=i) (t:=t) (ds:=ds) (fun k e hk he=>?_) ds.length
  ·rw [this,a1 t];congr 1;omega
  ·rcases Nat.lt_trichotomy k i with hlt'|rfl|hgt
   ·have:=R.slots i k d e t (by omega) hi hk ht he
    rw [show max i k=i from by omega,show min i k=k from by omega] at this
    exact ⟨fun _=>hlt',fun _=>hbef k this⟩
   ·exact ⟨(fun q=>by rw [hD] at q;cases q),(fun q=>by omega)⟩
   ·have:=R.slots i k d e t (by omega) hi hk ht he
    rw [show max i k=k from by omega,show min i k=i from by omega] at this
    exact ⟨(fun q=>by have:=A.closed k i q this;rw [hD] at this;cases this),(fun q=>by omega)⟩
 have slotLate:∀ t,d.o.dst=some t→∀ k e,ds[k]? = some e→i<k→e.o.dst=some t→D k=false:=by
  intro t ht k e hk hik he
  have hu:t ∈ yn ops d.o:=by simp [yn,ht]
  have:=R.slots i k d e t (by omega) hi hk hu he
  rw [show max i k=k from by omega,show min i k=i from by omega] at this
  cases hDk:D k with
  |false=>rfl
  |true=>have:=A.closed k i hDk this;rw [hD] at this;cases this
 have hwant:Region.wanted d.o (yielded ops a.tmps)=d.want:=by
  refine ajq (g:=g) (w:=w) A.size.size (Hp hg hmem) (fun j c hgd=>?_) hgv
  have hu:tj ops j ∈ yn ops d.o:=by simp [yn,hgd]
  rw [← slot _ hu]
  exact h4 _
 have hslotS:∀ (g':Gh) (w':World) (v:AV) (u:Value),(∀ t,Rel g' w' (ku ds L0 D ds.length t) (a.tmps.getD t undef))→Rel g' w' v u→d.v=v→∀ t,Rel g' w' (ku ds L0 (tt D i) ds.length t) ((a.put d.o.dst u).tmps.getD t undef):=by
  intro g' w' v u hall hv e t
  rw [aqb (fun q hq=>by rw [A.size.size];exact (NT.Ks (q9 hdst hmem q hq)).1),aco hi (slotLate t)]
  by_cases hd:d.o.dst=some t
  ·rw [if_pos ⟨hd,hlt⟩,if_pos hd,e];exact hv
  ·rw [if_neg (fun q=>hd q.1),if_neg hd];exact hall t
 have mono1:∀ i d,ds[i]? = some d→d.st.nx=nf ds st0.nx i∧d.st.nx≤d.ff.nx:=fun i d hd=>⟨(R.N4 i d hd).2.2.1,(R.N4 i d hd).2.2.2⟩
 have nxs:nf ds st0.nx (i+1)=d.ff.nx:=by rw [nf,hi]
 have free':∀ (g':Gh),(∀ o,g.inj o=none→¬ (d.st.nx≤o∧o<d.ff.nx)→g'.inj o=none)→∀ k e,ds[k]? = some e→tt D i k=false→∀ o,e.st.nx≤o→o<e.ff.nx→g'.inj o=none:=by
  intro g' hf k e hk hkD o q1 q2
  have hki:k≠i:=fun q=>by subst q;simp [tt] at hkD
  simp only [tt,if_neg hki] at hkD
  refine hf o (h5 k e hk hkD o q1 q2) (fun q=>?_)
  obtain ⟨e1,e2⟩:=mono1 k e hk
  rcases Nat.lt_or_gt_of_ne hki with hl|hl
  ·have:=pv mono1 i (k+1) (by omega)
   rw [nf.eq_2,hk] at this
   simp only at this
   omega
  ·have:=pv mono1 k (i+1) (by omega)
   rw [nxs] at this
   omega
 unfold wpOpIn
 rw [ho]
 dsimp only
 cases hw:d.want with
 |false=>
  rw [hwant,hw,if_neg (by simp)]
  refine ⟨lz ro P d.o a w,?_⟩
  obtain ⟨s1,s2,s3,s4⟩:=hok.skip hw
  refine hK _ _ ⟨⟨g,h,fun o=>?_,h2,h3,hslotS g w (.sc undef) undef h4 (.sc _) s1,free' g (fun o q _=>q)⟩,A.size.put (q9 hdst hmem),by rw [put_defers];exact A.defers,hcl⟩
  rw [h1 o,hupd o,if_neg (fun q=>by rw [s4] at q;cases q)]
 |true=>
  rw [hwant,hw,if_pos rfl]
  obtain ⟨r1,r2',r3,r4,r5⟩:=hok.run hw
  have r2:∀ p ∈ d.R,p≤dk:=fun p hp=>by have:=r2' p hp;omega
  have hsub:∀ o x,(pc d.st.h d.R).get o=some x→h.get o=some x:=by
   intro o x hx
   rw [Bv _ _ _ r2] at hx
   by_cases hR:o ∈ d.R
   ·rw [if_pos hR] at hx;rw [h1 o,obj o hR,hx]
   ·rw [if_neg hR] at hx;cases hx
  have hfree:me g { h:=pc d.st.h d.R,nx:=d.st.nx,rl:=[],wl:=[] } d.ff:=fun o q1 q2=>h5 i d hi hD o q1 q2
  have hrel:mn g w (di d.o d.L) a.eval:=ajf fun t ⟨x,hx,e⟩=>by
   have hu:t ∈ yn ops d.o:=by
    simp only [yn,List.mem_append,List.mem_filterMap]
    exact .inl (.inr ⟨x,hx,by rw [e]⟩)
   rw [← slot t hu]
   exact h4 t
  have hlow:Low { h:=pc d.st.h d.R,nx:=d.st.nx,rl:=[],wl:=[] }:=fun o x hx=>by
   simp only [Bv _ _ _ r2] at hx
   by_cases hR:o ∈ d.R
   ·exact r2' o hR
   ·rw [if_neg hR] at hx;cases hx
  refine aky hT (h2.part hsub) hfree hlow hrel r1 ro N _ _ ?_
  rintro u w' ⟨g',q1,q2,q3⟩
  have lx:∀ p ∈ d.R++dx d.st.nx (d.ff.nx - d.st.nx),p≤dk:=fun p hp=>by
   rcases List.mem_append.1 hp with hp|hp
   ·exact r2 p hp
   ·rw [m7] at hp;omega
  have hfs:=ajk (h':=su d.ff.h (d.R++dx d.st.nx (d.ff.nx - d.st.nx)) h) (S:=fun o=>o ∈ d.R++dx d.st.nx (d.ff.nx - d.st.nx)) h2 hsub (fun o x hx=>by
   rw [Bv _ _ _ r2] at hx
   by_cases hR:o ∈ d.R
   ·exact List.mem_append.2 (.inl hR)
   ·rw [if_neg hR] at hx;cases hx) q1 q2 (fun o hS=>by rw [ze _ _ _ _ lx,if_pos hS]) (fun o hS=>by rw [ze _ _ _ _ lx,if_neg hS]) (fun o e1 e2=>List.mem_append.2 (.inr (by have e1':d.st.nx≤o:=e1;have e2':o<d.ff.nx:=e2;rw [m7];omega)))
  have n1:st0.nx≤d.st.nx:=by rw [a3];exact pv mono1 i 0 (Nat.zero_le _)
  have n2:d.ff.nx≤nf ds st0.nx ds.length:=by rw [← nxs];exact pv mono1 ds.length (i+1) hlt
  refine hK _ _ ⟨⟨g',_,fun o=>?_,hfs.2,h3.both (hfs.1.akn n1 n2),hslotS g' w' d.v u (fun t=>(h4 t).ext q1.ext) q3 rfl,free' g' (fun o e1 e2=>q1.fresh o e1 e2)⟩,A.size.put (q9 hdst hmem),by rw [put_defers];exact A.defers,hcl⟩
  rw [ze _ _ _ _ lx,hupd o]
  by_cases hW:o ∈ d.W
  ·rw [if_pos hW,if_pos]
   rcases (r4 o).1 hW with hq|hq
   ·exact List.mem_append.2 (.inl hq.2)
   ·exact List.mem_append.2 (.inr (by rw [m7];omega))
  ·rw [if_neg hW]
   by_cases hR:o ∈ d.R
   ·rw [if_pos (List.mem_append.2 (.inl hR)),← r5 o hR hW,obj o hR]
   ·rw [if_neg,h1 o]
    intro hm
    rcases List.mem_append.1 hm with hm|hm
    ·exact hR hm
    ·rw [m7] at hm
     exact hW ((r4 o).2 (.inr (by omega)))
theorem aq2 {listed:Array Bool} {i:Nat} (hi:i<listed.size):(fun k=>(listed.setIfInBounds i true).getD k false)=tt (fun k=>listed.getD k false) i:=by
 funext k
 simp only [tt,Array.getD_eq_getD_getElem?,Array.getElem?_setIfInBounds]
 by_cases e:i=k
 ·subst e;simp [hi]
 ·rw [if_neg e,if_neg (Ne.symm e)]
theorem au5 {H:(Nat→Bool)→Nat→Option bh} {P:Program} [KP P] {T:ec} {ops:Array Oper} {ds:List DS} {L0:SL} {g0:Gh} {st0:St} {w0:World} {df:List Deferred} {ro:Option Nat} {N:Nat} {nt:NT} {L':SL} {st':St} (R:A4 P T ops ds L0 st0 L' st') {Q:Exit→Act→World→Prop}
 (hstep:∀ (D:Nat→Bool) (a:Act) (w:World) (i:Nat) (d:DS) (K:Act→World→Prop),ds[i]? = some d→D i=false→(∀ e ∈ d.o.after,Region.binds .any e=true→D e.on=true)→At H ops ds L0 g0 st0 w0 df nt (nf ds st0.nx ds.length) D a w→(∀ a' w',At H ops ds L0 g0 st0 w0 df nt (nf ds st0.nx ds.length) (tt D i) a' w'→K a' w')→wpOpIn (g8 ro) N P ops Q i K a w) (hQ:∀ D a w,(∀ i,i<ds.length→D i=true)→At H ops ds L0 g0 st0 w0 df nt (nf ds st0.nx ds.length) D a w→Q .normal a w) :
 ∀ (fuel:Nat) (listed:Array Bool) (a:Act) (w:World),listed.size=ops.size→left (fun k=>listed.getD k false) ops.size≤fuel→At H ops ds L0 g0 st0 w0 df nt (nf ds st0.nx ds.length) (fun k=>listed.getD k false) a w →
  wpAnyIn (g8 ro) N P .any ops Q fuel listed a w:=by
 have flip:∀ (listed:Array Bool) (i:Nat),i<listed.size→listed.getD i true=listed.getD i false:=by
  intro listed i hi;simp [hi]
 intro fuel
 induction fuel with
 |zero=>
  intro listed a w hsz hl A
  have hall:=Vd ops.size (Nat.le_zero.1 hl)
  refine ⟨?_,hQ _ a w (fun i hi=>hall i (by rw [← R.len];exact hi)) A⟩
  cases hr:Region.ready .any ops listed with
  |nil=>rfl
  |cons i r=>
   have:i ∈ Region.ready .any ops listed:=by rw [hr];simp
   rw [mem_ready] at this
   obtain ⟨h0,o,ho,_⟩:=this
   have hlt:i<ops.size:=(Array.getElem?_eq_some_iff.1 ho).1
   rw [flip listed i (by omega)] at h0
   have:=hall i hlt
   rw [h0] at this;cases this
 |succ fuel ih=>
  intro listed a w hsz hl A
  refine ⟨fun hnil=>?_,fun i hi=>?_⟩
  ·refine hQ _ a w (fun i hi=>?_) A
   cases hDi:listed.getD i false with
   |true=>rfl
   |false=>
    exfalso
    obtain ⟨k,h1,h2,h3⟩:=Qt (D:=fun k=>listed.getD k false) ops.size ⟨i,by rw [← R.len];exact hi,hDi⟩
    have hk:k ∈ Region.ready .any ops listed:=by
     rw [mem_ready]
     refine ⟨by rw [flip listed k (by omega)];exact h2,ops[k],by simp [h1],fun e he hb=>h3 _ (R.aw6 k ops[k] (by simp [h1]) e he hb)⟩
    rw [hnil] at hk;cases hk
  ·rw [mem_ready] at hi
   obtain ⟨h0,o,ho,hall⟩:=hi
   have hlt:i<ops.size:=(Array.getElem?_eq_some_iff.1 ho).1
   rw [flip listed i (by omega)] at h0
   obtain ⟨d,hd⟩:=R.has hlt
   have hdo:=R.get hd
   rw [ho] at hdo
   obtain rfl:o=d.o:=Option.some.inj hdo
   refine hstep _ a w i d _ hd h0 hall A (fun a' w' A'=>?_)
   have hu:=aq2 (listed:=listed) (i:=i) (by omega)
   refine ih _ a' w' (by simp [hsz]) ?_ (by rw [hu];exact A')
   rw [hu]
   have:=abo (D:=fun k=>listed.getD k false) (i:=i) h0 ops.size
   rw [if_pos hlt] at this
   omega
theorem agn (D:Nat→Bool):∀ m,left D m≤m
 |0=>by simp [left]
 |m+1=>by
  have:=agn D m
  rw [left]
  cases D m
  ·rw [cond_false];omega
  ·rw [cond_true];omega
theorem Vv {ds:List DS} {h0:Tr bh} {o:Nat}:∀ m,kx ds h0 (fun _=>false) m o=h0.get o
 |0=>rfl
 |m+1=>by rw [kx];cases ds[m]? <;> simp [Vv m]
theorem Xl {ds:List DS} {L0:SL} {t:Nat}:∀ m,ku ds L0 (fun _=>false) m t=lk L0 t
 |0=>rfl
 |m+1=>by rw [ku];cases ds[m]? <;> simp [Xl m]
theorem Zk {ds:List DS} {h0:Tr bh} {D:Nat→Bool} {o:Nat}:∀ m,(∀ i,i<m→D i=true)→kx ds h0 D m o=kx ds h0 (fun _=>true) m o
 |0,_=>rfl
 |m+1,h=>by rw [kx,kx];simp only [h m (by omega),Zk m (fun i hi=>h i (by omega))]
theorem aag {ds:List DS} {L0:SL} {D:Nat→Bool} {t:Nat}:∀ m,(∀ i,i<m→D i=true)→ku ds L0 D m t=ku ds L0 (fun _=>true) m t
 |0,_=>rfl
 |m+1,h=>by rw [ku,ku];simp only [h m (by omega),aag m (fun i hi=>h i (by omega))]
theorem Marks.congr {D:List Deferred} {n0:Nat} {h h':Tr bh} {g:Gh} {w:World} {ds:List Deferred} (hm:Marks D n0 h g w ds) (he:∀ o,h.get o=h'.get o):Marks D n0 h' g w ds:=by
 obtain ⟨bs,h1,h2,h3⟩:=hm
 exact ⟨bs,h1,h2,fun b hb=>⟨(h3 b hb).1,(h3 b hb).2.1,fun o base ho=>(h3 b hb).2.2 o base (by rw [he];exact ho)⟩⟩
theorem Z9 {P:Program} [KP P] {T:ec} (hT:Kk P T) (hm:P.follows .mixedOrders=true) {ops:Array Oper} {ro:Option Nat} {N:Nat} {B:fj} {nt:NT} {id:Nat} {Q:Exit→Act→World→Prop} {K:SL→St→Prop} (hg:tw nt ops=true) (hdst:Be nt ops=true)
 {L:SL} {st:St} {g:Gh} {w:World} {a:Act} (hnear:∀ L' st',K L' st'→B.ah2 st.nx st'.nx) (hK:∀ L st g w a',K L st→jh B g st w→gv g w nt L a'.tmps→Marks B.D B.n0 st.h g w a'.defers→a'.defers=a.defers→Q .normal a' w) (h:Ct P T ops true K L st) (hc:jh B g st w) (hr:gv g w nt L a.tmps) (hd:Marks B.D B.n0 st.h g w a.defers) :
 (Code.region id ops true).wpIn (g8 ro) N P Q a w:=by
 obtain ⟨hs,h⟩:=h
 obtain ⟨ds,L',st',e1,e2,e3,e4,e5⟩:=apr _ _ _ _ (h.elim (ac0 _ _ _ _) fun h=>h)
 obtain ⟨c1,c2,c3,c4⟩:=arl (fun d hd=>(e2 d hd).toDSRun) e3
 unfold Lf at hs
 rw [Bool.and_eq_true] at hs
 have R:A4 P T ops ds L st L' st':=by
  refine ⟨e1,fun d hd=>(e2 d hd).toDSRun,c1,⟨c2,c3,c4⟩,fun i k x y t hik hx hy ht hdt=>?_,fun i o ho e he hb=>?_⟩
  ·have hxi:(x.o,i) ∈ ops.toList.zipIdx:=by
    rw [List.mem_zipIdx_iff_getElem?,← e1];simp [hx]
   have hyk:(y.o,k) ∈ ops.toList.zipIdx:=by
    rw [List.mem_zipIdx_iff_getElem?,← e1];simp [hy]
   have h1:=List.all_eq_true.1 hs.1 _ hxi
   have h2:=List.all_eq_true.1 h1 t ht
   have h3:=List.all_eq_true.1 h2 _ hyk
   simp only [hdt,Bool.or_eq_true] at h3
   rcases h3 with (h3|h3)|h3
   ·simp at h3
   ·simp at h3;omega
   ·rw [Nat.max_comm,Nat.min_comm];exact h3
  ·have hoi:(o,i) ∈ ops.toList.zipIdx:=by rw [List.mem_zipIdx_iff_getElem?];simpa using ho
   have h1:=List.all_eq_true.1 hs.2 _ hoi
   rw [Array.all_eq_true_iff_forall_mem] at h1
   have:=h1 e he
   rw [hb] at this
   simpa using this
 have C:Calm ops ds:=fun i k x y hik hx hy=>by
  have:=Oj _ 0 e4 i k ⟨x.R,x.W⟩ ⟨y.R,y.W⟩ hik (by simp [hx]) (by simp [hy])
  simp only [G6,Nat.zero_add,Bool.or_eq_true,Bool.and_eq_true] at this
  rcases this with h1|h1
  ·exact .inr ⟨h1.1.1,h1.1.2,h1.2⟩
  ·exact .inl h1
 have hc1:=hc.drawn
 have hd':Marks B.D B.n0 st.h g { w with drawn:=w.drawn+1 } a.defers:=hd
 have mono1:∀ i d,ds[i]? = some d→d.st.nx=nf ds st.nx i∧d.st.nx≤d.ff.nx:=fun i d hd=>⟨(c1 i d hd).2.2.1,(c1 i d hd).2.2.2⟩
 refine wpIn_region_any hm (au5 (H:=fun D o=>kx ds st.h D ds.length o) (L0:=L) (g0:=g) (st0:=st) (w0:={ w with drawn:=w.drawn+1 }) (df:=a.defers) R (fun D a w i d K hi hD hr A hK=>At.step hT R hg hdst hi (e2 d (List.mem_of_getElem? hi)).g (ada R C hi hD A.closed hr).1 (ada R C hi hD A.closed hr).2 hD hr A hK) ?_ ops.size _ a _ (by simp) ?_ ?_)
 ·intro D a' w' hall A
  obtain ⟨g',h',q1,q2,q3,q4,q5⟩:=A.mem
  have hh:∀ o,h'.get o=st'.h.get o:=fun o=>by rw [q1 o,Zk _ hall,c3 o]
  have hle:st.nx≤st'.nx:=by rw [c4];exact pv mono1 ds.length 0 (Nat.zero_le _)
  refine hK L' st' g' w' a' e5 (hc1.step (hnear _ _ e5) ⟨hle,?_⟩ (q2.congr hh)) ⟨A.size,fun t=>?_⟩ (by rw [A.defers];exact Marks.congr (Marks.step q3 hd') hh) A.defers
  ·rw [c4];exact q3.congr hh
  ·rw [c2 t,← aag _ hall];exact q4 t
 ·exact agn _ _
 ·have hf:(fun k=>(Array.replicate ops.size false).getD k false)=fun _=>false:=by
   funext k
   simp only [Array.getD_eq_getD_getElem?,Array.getElem?_replicate]
   split<;>rfl
  rw [hf]
  exact ⟨⟨g,st.h,fun o=>(Vv _).symm,hc1.ok,.refl _ _ _ _ _,fun t=>by
   rw [Xl];exact (hr.2 t).ext (Ext.same (w:=w) (w':={ w with drawn:=w.drawn+1 }) rfl),fun i d hd _ o h1 h9=>hc.fresh o (by
   have:=pv mono1 i 0 (Nat.zero_le _)
   rw [(c1 i d hd).2.2.1] at h1
   exact Nat.le_trans this h1) (hnear _ _ e5 o (by
   have:=pv mono1 i 0 (Nat.zero_le _)
   rw [(c1 i d hd).2.2.1] at h1
   exact Nat.le_trans this h1) (by
   rw [c4]
   have h10:=pv mono1 ds.length (i+1) (List.getElem?_eq_some_iff.1 hd).1
   rw [nf.eq_2,hd] at h10
   exact Nat.lt_of_lt_of_le h9 h10))⟩,hr.1,rfl,fun i k hik=>by cases hik⟩
theorem tc {P:Program} [KP P] {b:Frame} {a:Act} {k:List Item} {cs:List Frame} {w:World} {c:Code}:step P (lone (b.atR a (.code (.scope c)::k)) cs w) = .next (lone (b.atR a (.code c :: .inScope c::k)) cs w):=
 step_lone_go (by simp [stepG,stepG.exec,Frame.atR])
theorem X3 {P:Program} [KP P] {b:Frame} {a:Act} {k:List Item} {cs:List Frame} {w:World} {c:Code}:step P (lone (b.atR a (.inScope c::k)) cs w) = .next (lone (b.atR a k) cs w):=
 step_lone_go (by simp [stepG,stepG.exec,Frame.atR])
theorem I1 {F:Fence} {n:Nat} {P:Program} [KP P] {Q:Exit→Act→World→Prop} {a:Act} {w:World} {c:Code} (h:c.wpIn F n P (Exit.noGoto Q) a w):(Code.scope c).wpIn F n P Q a w:=by
 intro b k cs hro hb hr
 obtain ⟨e,a₁,w₁,hq,harr⟩:=h b (.inScope c::k) cs hro hb hr
 have h0:=fenced_calm (P:=P) (F:=F) (fr:=b.atR a (.code (.scope c)::k)) (cs:=cs) (w:=w) (n:=n) hb hr rfl
 cases e with
 |normal=>exact ⟨.normal,a₁,w₁,hq,.head h0 tc (StepsIn.trans harr (.one (fenced_calm (fr:=b.atR a₁ (.inScope c::k)) hb hr rfl) X3))⟩
 |exit id=>
  have hx:exitTo id (.inScope c::k)=exitTo id k:=by simp [exitTo]
  exact ⟨.exit id,a₁,w₁,hq,fun k' hk=>.head h0 tc (harr.1 k' (by rw [hx];exact hk)),
   fun hr' hk=>let ⟨k₁,h1,h2⟩:=harr.2 hr' (by rw [hx];exact hk);⟨k₁,h1,.head h0 tc h2⟩⟩
 |goto l=>exact hq.elim
 |ret=>exact ⟨_,a₁,w₁,hq,.of_steps (.one h0 tc) harr⟩
 |panic ch=>exact ⟨_,a₁,w₁,hq,.of_steps (.one h0 tc) harr⟩
 |outgrown=>exact ⟨_,a₁,w₁,hq,.of_steps (.one h0 tc) harr⟩
theorem aon {P:Program} [KP P] {T:ec} (hT:ak P T) (hm:P.follows .mixedOrders=true) {ro:Option Nat} {N:Nat} {B:fj} {nt:NT} (hnf:B.lr) (hp:B.aw≤1000) (rf:Bool)
 (hrf:rf=true→∀ f ps asg body,du nt (.rangeFunc f ps asg body)=true→Ov P ro N B nt (.rangeFunc f ps asg body) (wl P T B.aw (.rangeFunc f ps asg body))) :
 ∀ c:Code,du nt c=true→(rf=true∨c.qw=true)→Ov P ro N B nt c (wl P T B.aw c):=by
 intro c
 have both:∀ {x y:Bool},(rf=true∨(x && y)=true)→(rf=true∨x=true)∧(rf=true∨y=true):=by
  intro x y h
  rcases h with h|h
  ·exact ⟨.inl h,.inl h⟩
  ·rw [Bool.and_eq_true] at h;exact ⟨.inr h.1,.inr h.2⟩
 induction c with
 |skip=>intro _ _ Q L st g w a h hc hr hd;exact wpIn_skip (Fin.mk' (e:=.normal) h hc hr hd)
 |label l=>intro _ _ Q L st g w a h hc hr hd;exact wpIn_label (Fin.mk' (e:=.normal) h hc hr hd)
 |exit id=>intro _ _ Q L st g w a h hc hr hd;exact wpIn_exit (Fin.mk' (e:=.exit id) h hc hr hd)
 |ret=>intro _ _ Q L st g w a h hc hr hd;exact wpIn_ret (Fin.mk' (e:=.ret) h hc hr hd)
 |region id ops draw=>
  intro hs hpl Q L st g w a h hc hr hd
  simp only [du,Bool.and_eq_true] at hs
  cases draw with
  |false=>
   refine wpIn_region (as7 hT hnf hs.2 hs.1 (fun L st g w a h hc hr hd=>Fin.mk' (e:=.normal) h hc hr hd) ops.toList _ (by simp) (Jz ops) L st g w a h hc hr hd)
  |true=>exact Z9 hT.toF hm hs.2 hs.1 (fun _ _ _=>hnf.Fl _ _) (fun L st g w a h hc hr hd _=>Fin.mk' (e:=.normal) h hc hr hd) h hc hr hd
 |seq x y ihx ihy=>
  intro hs hpl Q L st g w a h hc hr hd
  simp only [du,Bool.and_eq_true] at hs
  refine wpIn_seq (wpIn_mono (ihx hs.1 (both hpl).1 _ L st g w a h hc hr hd) ?_)
  rintro ex a' w' ⟨e,L',st',g',rfl,hq,hc',hr',hd'⟩
  cases e with
  |normal=>exact ihy hs.2 (both hpl).2 Q L' st' g' w' a' hq hc' hr' hd'
  |exit id=>exact ⟨.exit id,L',st',g',rfl,hq,hc',hr',hd'⟩
  |ret=>exact ⟨.ret,L',st',g',rfl,hq,hc',hr',hd'⟩
 |cond c x y ihx ihy=>
  intro hs hpl Q L st g w a h hc hr hd
  simp only [du,Bool.and_eq_true] at hs
  obtain ⟨v,hv,h1,h2⟩:=Mw h
  have hev:=Q7 (hr.eval c) hv
  cases v with
  |true=>exact wpIn_cond_true hev (ihx hs.1 (both hpl).1 Q L st g w a (h1 rfl) hc hr hd)
  |false=>exact wpIn_cond_false hev (ihy hs.2 (both hpl).2 Q L st g w a (h2 rfl) hc hr hd)
 |block id x ih=>
  intro hs hpl Q L st g w a h hc hr hd
  refine wpIn_block (wpIn_mono (ih hs hpl _ L st g w a h hc hr hd) ?_)
  rintro ex a' w' ⟨e,L',st',g',rfl,hq,hc',hr',hd'⟩
  cases e with
  |normal=>exact ⟨.normal,L',st',g',rfl,hq,hc',hr',hd'⟩
  |ret=>exact ⟨.ret,L',st',g',rfl,hq,hc',hr',hd'⟩
  |exit j=>
   simp only [Hh] at hq
   by_cases e:j=id
   ·subst e
    simp only [Nat.beq_refl,cond_true] at hq
    simp only [pz,Exit.inBlock,if_true]
    exact ⟨.normal,L',st',g',rfl,hq,hc',hr',hd'⟩
   ·rw [n8 e,cond_false] at hq
    simp only [pz,Exit.inBlock,if_neg e]
    exact ⟨.exit j,L',st',g',rfl,hq,hc',hr',hd'⟩
 |loop x ih=>
  intro hs hpl Q L st g w a h hc hr hd
  exact atw hnf hp (ih hs hpl) Q L st g w a h hc hr hd
 |scope x ih=>
  intro hs hpl Q L st g w a h hc hr hd
  refine I1 (wpIn_mono (ih hs hpl Q L st g w a h hc hr hd) ?_)
  rintro ex a' w' ⟨e,L',st',g',rfl,hq,hc',hr',hd'⟩
  cases e<;>exact ⟨_,L',st',g',rfl,hq,hc',hr',hd'⟩
 |rangeFunc f ps asg body=>
  intro hs hpl
  rcases hpl with hpl|hpl
  ·exact hrf hpl f ps asg body hs
  ·cases hpl
 |goto l=>intro _ _ Q L st g w a h;exact h.elim
 |refuse why=>intro _ _ Q L st g w a h;exact h.elim
theorem abr {P:Program} [KP P] {T:ec} (hT:ak P T) (hm:P.follows .mixedOrders=true) {ro:Option Nat} {N:Nat} {B:fj} {nt:NT} (hnf:B.lr) (hp:B.aw≤1000) (c:Code) (hs:du nt c=true) (hpl:c.qw=true):Ov P ro N B nt c (wl P T B.aw c):=
 aon hT hm hnf hp false (fun h=>by cases h) c hs (.inr hpl)
def j6 (g:Gh) (h:Tr bh) (w:World) (p:Nat) (x:Nat→Prop) (far:Nat→Prop:=fun _=>False):fj:=
 { b0:=g.b0,w,K:=g.K,O:=fun b=>x b∨∃ o base,(h.get o).isSome=true∧g.inj o=some (b,base),aw:=p,pb:=g.inj,n0:=0,far:=far }
theorem jh.N4 {B g st w} (h:jh B g st w) (p:Nat) (x:Nat→Prop) (hp:p≤st.nx) {far:Nat→Prop} (hf:∀ o,B.far o→far o):jh (j6 g st.h w p x far) g st w:=
 ⟨h.ok,fun o h1 h2=>h.fresh o h1 (fun h3=>h2 (hf o h3)),⟨rfl,fun _o _ho=>rfl,fun _ _ h=>h,fun _ _ _=>rfl,Nat.le_refl _,rfl,rfl,rfl,fun _ _ _=>rfl,fun o _b base ho hi=>.inr (.inr ⟨o,base,ho,hi⟩),fun _ _ h=>.inl h,
  fun _b cs _e fr h=>⟨cs,fr,h,rfl⟩,fun _b l h=>⟨l,h⟩,fun _ _ _ _ _ _=>rfl⟩,hp⟩
theorem qg.comp {B g h w p x far g' h' w'} (b:qg B g h w) (c:qg (j6 g h w p x far) g' h' w') (hp:B.aw≤p) (hf:∀ o,B.far o→far o) (hx:∀ n,x n→B.w.heap.size≤n∨B.O n):qg B g' h' w':=by
 have hO:∀ n,(j6 g h w p x far).O n→B.w.heap.size≤n∨B.O n:=by
  rintro n (hn|⟨o,base,h1,h2⟩)
  ·exact hx n hn
  ·exact b.own o n base h1 h2
 refine ⟨c.b0.trans b.b0,fun o ho=>?_,fun i j hk=>c.K i j (b.K i j hk),fun i j hk=>(c.cell i j (b.K i j hk)).trans (b.cell i j hk),Nat.le_trans b.size c.size,c.os.trans b.os,c.tape.trans b.tape,c.output.trans b.output,fun n hn hnO=>?_,fun o n base ho hi=>?_,fun n j hk=>?_,fun n cs e fr hn=>?_,fun n l hn=>?_,fun n cs e fr hn hK=>(c.whole n cs e fr ((b.whole n cs e fr hn hK).trans hn) (fun j=>b.K n j (hK j))).trans (b.whole n cs e fr hn hK)⟩
 ·have h1:=c.pins o (ho.imp (fun h=>Nat.lt_of_lt_of_le h hp) (hf o))
  exact Eq.trans h1 (b.pins o ho)
 ·refine (c.frame n (Nat.lt_of_lt_of_le hn b.size) (fun hO'=>?_)).trans (b.frame n hn hnO)
  rcases hO n hO' with h1|h1
  ·omega
  ·exact hnO h1
 ·rcases c.own o n base ho hi with h1|h1
  ·exact .inl (Nat.le_trans b.size h1)
  ·exact hO n h1
 ·rcases c.oh n j hk with h1|h1|h1
  ·exact b.oh n j h1
  ·exact .inr (.inl (Nat.le_trans b.size h1))
  ·exact .inr (hO n h1)
 ·obtain ⟨cs1,fr1,h1,h2⟩:=b.rn n cs e fr hn
  obtain ⟨cs2,fr2,h3,h4⟩:=c.rn n cs1 e fr1 h1
  exact ⟨cs2,fr2,h3,h4.trans h2⟩
 ·obtain ⟨l1,h1⟩:=b.lp n l hn
  exact c.lp n l1 h1
theorem qg.aat {g h w p x far g' h' w'} (c:qg (j6 g h w p x far) g' h' w') (hn:∀ o,p≤o→¬ far o→g.inj o=none):Ext g w g' w':=
 ⟨c.b0,(fun o q hq=>by
  by_cases ho:o<p∨far o
  ·exact (c.pins o ho).trans hq
  ·rw [hn o (by omega) (fun h=>ho (.inr h))] at hq;cases hq),c.K,c.cell,c.rn,c.lp,c.whole⟩
theorem qg.aww {g h w p x y far g' h' w'} (c:qg (j6 g h w p x far) g' h' w') (hxy:∀ n,x n→y n):qg (j6 g h w p y far) g' h' w':=by
 have hO:∀ n,(j6 g h w p x far).O n→(j6 g h w p y far).O n:=fun n hn=>hn.imp (hxy n) id
 exact ⟨c.b0,c.pins,c.K,c.cell,c.size,c.os,c.tape,c.output,fun n hn hnO=>c.frame n hn (fun h=>hnO (hO n h)),fun o n base ho hi=>(c.own o n base ho hi).imp id (hO n),fun n j hk=>(c.oh n j hk).imp id (·.imp id (hO n)),c.rn,c.lp,c.whole⟩
theorem qg.Lk {g h w p x far g' h' w' b} (c:qg (j6 g h w p x far) g' h' w') (hb:b<w.heap.size) (hu:ia g h b) (hx:¬ x b):ia g' h' b∧w'.heap[b]? = w.heap[b]? := by
 have hO:¬ (j6 g h w p x far).O b:=by
  rintro (h1|⟨o,base,h1,h2⟩)
  ·exact hx h1
  ·exact hu o base h1 h2
 refine ⟨fun o base ho hi=>?_,c.frame b hb hO⟩
 rcases c.own o b base ho hi with h1|h1
 ·have:w.heap.size≤b:=h1;omega
 ·exact hO h1
theorem Marks.base {D g h w p x far g' h' w' n0 ds} (c:qg (j6 g h w p x far) g' h' w') (hm:Marks D n0 h g w ds) (hx:∀ b,x b→∃ l,w.heap[b]? = some (.loop l)):Marks D n0 h' g' w' ds:=by
 obtain ⟨bs,h1,h2,h3⟩:=hm
 refine ⟨bs,h1,h2,fun b hb=>?_⟩
 obtain ⟨q1,q2,q3⟩:=h3 b hb
 have:=c.Lk (bt q2) q3 (fun hxb=>by obtain ⟨l,hl⟩:=hx b hxb;rw [q2] at hl;cases hl)
 exact ⟨q1,this.2.trans q2,this.1⟩
theorem al2 {g h w w'} (lo hi:Nat) (hok:Ok g h w) (hsz:w.heap.size≤w'.heap.size) (hh:∀ b,b<w.heap.size→w'.heap[b]? = w.heap[b]?) (h1:w'.os=w.os) (h2:w'.tape=w.tape) (h3:w'.output=w.output) :
 Step g h w lo hi g h w'∧Ok g h w':=by
 have hext:Ext g w g w':=⟨rfl,fun _ _ h=>h,fun _ _ h=>h,fun b j hj=>nq (hh b (hok.K b j hj)),fun b cs e fr hb=>⟨cs,fr,(hh b (bt hb)).trans hb,rfl⟩,fun b l hb=>⟨l,(hh b (bt hb)).trans hb⟩,fun b cs e fr hb _=>hh b (bt hb)⟩
 refine ⟨⟨hext,hsz,h1,h2,h3,fun b hb _=>hh b hb,fun _ h _=>h,fun o b base ho hi=>.inr ⟨o,base,ho,hi⟩,fun b j hk=>.inl hk⟩,⟨Nat.le_trans hok.size hsz,fun o x hx=>?_,hok.sep,fun b j hk=>Nat.lt_of_lt_of_le (hok.K b j hk) hsz⟩⟩
 refine (hok.qi o x hx).imp id ?_
 rintro ⟨b,base,p1,p2,p3⟩
 exact ⟨b,base,p1,p2,p3.ext hext (hh b p3.lt) (fun _ hk=>hk)⟩
theorem wb {B g st w l r r'} (hc:jh B g st w) (hl:w.heap[l]? = some (.loop r)) (hu:ia g st.h l) (hO:B.O l):jh B g st (gg w l (.loop r'))∧Ext g w g (gg w l (.loop r')):=by
 have hne:∀ {c:Nat} {o:Obj},w.heap[c]? = some o→(∀ r,o ≠ .loop r)→c≠l:=fun hc ho e=>by
  subst e
  rw [hl] at hc;cases hc
  exact ho r rfl
 have hcell:∀ c j,(gg w l (.loop r')).cell? ⟨c,j,none⟩=w.cell? ⟨c,j,none⟩:=fun c j=>by
  by_cases e:c=l
  ·subst e
   simp [World.cell?,gp _ (bt hl),hl]
  ·exact nq (ef w _ e)
 have hext:Ext g w g (gg w l (.loop r')):=by
  refine ⟨rfl,fun _ _ h=>h,fun _ _ h=>h,fun c j _=>hcell c j,fun c cs e fr h=>?_,fun c q h=>?_,fun c cs e fr h _=>ef w _ (hne h (fun r e=>by cases e))⟩
  ·exact ⟨cs,fr,(ef w _ (hne h (fun r e=>by cases e))).trans h,rfl⟩
  ·by_cases e:c=l
   ·subst e;exact ⟨r',gp _ (bt hl)⟩
   ·exact ⟨q,(ef w _ e).trans h⟩
 refine ⟨⟨⟨by rw [lg];exact hc.ok.size,fun o x hx=>?_,hc.ok.sep,fun c j hk=>by rw [lg];exact hc.ok.K c j hk⟩,hc.fresh,?_,hc.aw⟩,hext⟩
 ·refine (hc.ok.qi o x hx).imp id ?_
  rintro ⟨c,base,h1,h2,h3⟩
  exact ⟨c,base,h1,h2,h3.ext hext (ef w _ (fun e=>hu o base (by rw [hx];rfl) (by rw [← e];exact h1))) (fun _ h=>h)⟩
 ·have b:=hc.base
  refine ⟨b.b0,b.pins,b.K,fun c j hk=>(hcell c j).trans (b.cell c j hk),by rw [lg];exact b.size,b.os,b.tape,b.output,fun c hc' hcO=>?_,b.own,b.oh,fun c cs e fr h=>?_,fun c q h=>?_,fun c cs e fr h hK=>(ef w _ (hne ((b.whole c cs e fr h hK).trans h) (fun r e=>by cases e))).trans (b.whole c cs e fr h hK)⟩
  ·exact (ef w _ (fun e=>hcO (by rw [e];exact hO))).trans (b.frame c hc' hcO)
  ·obtain ⟨cs1,fr1,h1,h2⟩:=b.rn c cs e fr h
   exact ⟨cs1,fr1,(ef w _ (hne h1 (fun r e=>by cases e))).trans h1,h2⟩
  ·obtain ⟨q1,h1⟩:=b.lp c q h
   exact hext.lp c q1 h1
theorem Marks.wb {D n0 h g w ds l r r'} (hm:Marks D n0 h g w ds) (hl:w.heap[l]? = some (.loop r)):Marks D n0 h g (gg w l (.loop r')) ds:=by
 obtain ⟨bs,h1,h2,h3⟩:=hm
 refine ⟨bs,h1,h2,fun b hb=>⟨(h3 b hb).1,(ef w _ (fun e=>?_)).trans (h3 b hb).2.1,(h3 b hb).2.2⟩⟩
 have:=(h3 b hb).2.1
 rw [e,hl] at this;cases this
theorem ame (h:Tr bh):∀ (n:Nat) (todo acc:List Nat) (o:Nat),o ∈ reach h n todo acc→o ∈ acc∨(h.get o).isSome=true:=by
 intro n
 induction n with
 |zero=>intro todo acc o ho;exact .inl ho
 |succ n ih=>
  intro todo acc o ho
  cases todo with
  |nil=>exact .inl ho
  |cons a r=>
   simp only [reach] at ho
   cases hc:acc.contains a with
   |true=>rw [hc] at ho;exact ih r acc o ho
   |false=>
    rw [hc,cond_false] at ho
    cases ha:h.get a with
    |none=>rw [ha] at ho;exact ih r acc o ho
    |some x=>
     rw [ha] at ho
     rcases ih _ _ o ho with h1|h1
     ·rcases List.mem_append.1 h1 with h2|h2
      ·exact .inl h2
      ·simp at h2;subst h2;exact .inr (by rw [ha];rfl)
     ·exact .inr h1
theorem Nj {B:fj} {g:Gh} {st:St} {w:World} (_hc:jh B g st w) (keep:List Nat) (L:SL) :
 B.aw≤(ep B.aw keep L st).length∧(ep B.aw keep L st).length≤(bk (ep B.aw keep L st)).nx∧(∀ i,(ep B.aw keep L st).length≤i→(g.dr (gj B.aw keep L st)).inj i=none):=by
 have hN:=wu st.h fe (AV.names.go (keep.map (lk L))++mz st.h (dx 0 B.aw)) (dx 0 B.aw) (ox _ _)
 have hm:=ame st.h fe (AV.names.go (keep.map (lk L))++mz st.h (dx 0 B.aw)) (dx 0 B.aw)
 change (gj B.aw keep L st).Nodup∧(∃ r,gj B.aw keep L st=dx 0 B.aw++r)∧(gj B.aw keep L st).length≤_ at hN
 change ∀ o,o ∈ gj B.aw keep L st→_ at hm
 unfold ep
 rw [iu]
 generalize gj B.aw keep L st=N at hN hm
 obtain ⟨_,⟨rest,hpre⟩,_⟩:=hN
 refine ⟨by rw [hpre,List.length_append,iw];omega,by simp [bk,iu],fun i hi=>by simp [Gh.dr,List.getElem?_eq_none hi]⟩
theorem B3 {B:fj} {g:Gh} {st:St} {L:SL} {b:Nat} (hp:B.aw≤1000) (keep:List Nat) (hu:ia g st.h b):ia (g.dr (gj B.aw keep L st)) (bk (ep B.aw keep L st)).h b:=by
 have hN:=wu st.h fe (AV.names.go (keep.map (lk L))++mz st.h (dx 0 B.aw)) (dx 0 B.aw) (ox _ _)
 change (gj B.aw keep L st).Nodup∧(∃ r,gj B.aw keep L st=dx 0 B.aw++r)∧(gj B.aw keep L st).length≤_ at hN
 unfold ep
 generalize gj B.aw keep L st=N at hN
 obtain ⟨hnd,⟨rest,hpre⟩,hlen⟩:=hN
 rw [iw] at hlen
 have hlim:N.length≤dk:=by simp only [fe,dk] at *;omega
 intro i base hi hj
 obtain ⟨x,hx⟩:=Option.isSome_iff_exists.1 hi
 simp only [bk] at hx
 rw [ud _ _ _ (by rw [iu];omega),if_pos (Nat.zero_le _),Nat.sub_zero,u1] at hx
 cases hi':N[i]? with
 |none=>rw [hi'] at hx;cases hx
 |some o=>
  rw [hi'] at hx
  simp only [Option.map_some,Option.join_some] at hx
  cases hy:st.h.get o with
  |none=>rw [hy] at hx;cases hx
  |some y=>
   have:(g.dr N).inj i=g.inj o:=by simp [Gh.dr,hi']
   rw [this] at hj
   exact hu o base (by rw [hy];rfl) hj
def alu:Ex→Code
 |.ret=>.ret
 |.exit id=>.exit id
 |.normal=>.skip
def O4:Ex→Bool
 |.normal=>true
 |_=>false
structure s6 where
 fn:FuncId
 tmps:Array Value
 params:Array Tmp
 assign:Code
 body:Code
 defers:Nat
def s6.at (r:s6) (pe:Option Ex):Loop:={ state:=match pe with|none=>.ready|some _=>.done,pending:=pe.map alu,fn:=r.fn,tmps:=r.tmps,params:=r.params,assign:=r.assign,body:=r.body,defers:=r.defers }
def as8 (e:Ex):Option Ex:=
 match e with
 |.normal=>none
 |e=>some e
def Hx (B:fj) (nt:NT) (l:Nat) (rec:s6) (Q:QI):Exit→Act→World→Prop:=fun ex a w=>
 ∃ e pe L st g,ex=pz e∧Q e pe L st∧jh B g st w∧gv g w nt L a.tmps∧a.defers=[]∧w.heap[l]? = some (.loop (rec.at pe))∧ia g st.h l
theorem Hx.mk' {B nt l rec} {Q:QI} {e pe L st g} {a:Act} {w:World} (hq:Q e pe L st) (hc:jh B g st w) (hr:gv g w nt L a.tmps) (hd:a.defers=[]) (hl:w.heap[l]? = some (.loop (rec.at pe))) (hu:ia g st.h l) :
 Hx B nt l rec Q (pz e) a w:=⟨e,pe,L,st,g,rfl,hq,hc,hr,hd,hl,hu⟩
def Yk (P:Program) (l:Nat) (rec:s6) (R:Gp) (B1:fj):Prop:=
 ∀ (N p:Nat) (args:List AV) (X:Ex→St→Prop) (g:Gh) (st:St) (w:World) (vs:List Value),jh B1 g st w→B1.aw≤p→p≤st.nx→(∀ o,p≤o→g.inj o=none)→bp g w args vs →
  w.heap[l]? = some (.loop (rec.at none))→ia g st.h l→R p args X st →
  ∃ f tmps asg body,(Instr.yield l vs.toArray).run P w = .ok (.round l f tmps asg body) w∧RoundIn (g8 none) N P l f tmps asg body w (fun e w'=>∃ ex st' g',X ex st'∧e = .returned (.bool (O4 ex))∧jh (j6 g st.h w p (· = l)) g' st' w' ∧
   w'.heap[l]? = some (.loop (rec.at (as8 ex)))∧ia g' st'.h l)
theorem aa9 {l:Nat} {a:AV} {g w v} (h:zu l a=true) (hr:Rel g w a v):v = .func (.yield l) #[] #[]:=by
 unfold zu at h
 split at h
 ·rename_i x
  split at h
  ·rename_i f va vb
   split at h
   ·rename_i k
    simp only [Bool.and_eq_true] at h
    have:=hr.exact rfl
    subst this
    obtain ⟨⟨h1,h2⟩,h3⟩:=h
    have h1:=Nat.eq_of_beq_eq_true h1
    have h2:va = #[]:=Array.eq_empty_of_size_eq_zero (Nat.eq_of_beq_eq_true h2)
    have h3:vb = #[]:=Array.eq_empty_of_size_eq_zero (Nat.eq_of_beq_eq_true h3)
    rw [h1,h2,h3]
   ·cases h
  ·cases h
 ·cases h
theorem amm {P:Program} [KP P] {o:Oper} {f:Operand} {args:Array Operand} {ts:Array TypeId} {ρ:Operand→Value} {l:Nat} (ho:o.op = .call { callee:=.value f,args,argTypes:=ts })
 (hf : ρ f = .func (.yield l) #[] #[]) (w:World):(execOp ρ o).run P w=(Instr.yield l (args.map ρ)).run P w:=by
 simp [execOp,ho,resolve,hf,Deferred.ofValue,invoke]
theorem asx {P:Program} [KP P] {T:ec} (hT:ak P T) {ops:Array Oper} {N:Nat} {B:fj} {nt:NT} {l:Nat} {rec:s6} {R:Gp} (hnf:B.lr) (hp:B.aw≤1000) (hR:Yk P l rec R B) (hO:B.O l) {Q:Exit→Act→World→Prop} {K:Option Ex→SL→St→Prop} (hg:tw nt ops=true) (hd:Be nt ops=true)
 (hK:∀ pe L st g w a,K pe L st→jh B g st w→gv g w nt L a.tmps→a.defers=[]→w.heap[l]? = some (.loop (rec.at pe))→ia g st.h l→Q .normal a w) :
 ∀ (ls:List Oper) (is:List Nat),(∀ o ∈ ls,o ∈ ops)→is.map (fun i=>ops[i]?)=ls.map some→∀ pe L st g w a,Dw P T l R B.aw ops ls K pe L st→jh B g st w→gv g w nt L a.tmps→a.defers=[] →
  w.heap[l]? = some (.loop (rec.at pe))→ia g st.h l→wpOpsIn (g8 none) N P ops Q is a w:=by
 intro ls
 induction ls with
 |nil=>
  intro is _ his pe L st g w a h hc hr hdf hl hu
  cases is with
  |nil=>exact hK pe L st g w a h hc hr hdf hl hu
  |cons i is=>cases his
 |cons o ls ih=>
  intro is hmem his pe L st g w a h hc hr hdf hl hu
  cases is with
  |nil=>cases his
  |cons i is=>
   simp only [List.map_cons,List.cons.injEq] at his
   obtain ⟨hi,his⟩:=his
   have ho:=hmem o (by simp)
   have hmem':∀ o ∈ ls,o ∈ ops:=fun o ho=>hmem o (by simp [ho])
   simp only [wpOpsIn,hi]
   rcases H0 hr (Hp hg ho) h with ⟨hw,h1⟩|⟨hw,h1⟩
   ·rw [hw,if_pos rfl]
    unfold opI T9 at h1
    cases hy:yieldOf l o L with
    |none=>
     rw [hy] at h1
     simp only at h1
     unfold Gm at h1
     cases hop:gx P T o (dt L) st with
     |none=>rw [hop] at h1;exact h1.elim
     |some q=>
      obtain ⟨v,st'⟩:=q
      rw [hop] at h1
      refine Pm hT hc.ok (hc.free (hnf.Fl _ _)) hr.eval hop none N _ _ ?_
      rintro u w' ⟨g',q1,q2,q3⟩
      have hun:=ia.step q1 (bt hl) hu
      exact ih is hmem' his pe _ st' g' w' _ h1 (hc.step (hnf.Fl _ _) ⟨Dd hop,q1⟩ q2) ((hr.ext q1.ext).put q3 (q9 hd ho)) (by rw [put_defers];exact hdf) (hun.2.trans hl) hun.1
    |some args=>
     rw [hy] at h1
     obtain ⟨rfl,keep,h1⟩:=h1
     have hcall:∃ f ts,o.op = .call { callee:=.value f,args,argTypes:=ts }∧zu l (dt L f)=true:=by
      unfold yieldOf at hy
      split at hy
      ·rename_i f args' ts he
       cases hb:zu l (dt L f) with
       |false=>rw [hb] at hy;cases hy
       |true=>rw [hb] at hy;cases hy;exact ⟨f,ts,he,hb⟩
      ·cases hy
     obtain ⟨f,ts,he,hb⟩:=hcall
     have hfv:=aa9 hb (hr.eval f)
     have cc:=D1 hnf hp keep hc hr
     have cn:=Nj hc keep L
     have cu:=B3 (L:=L) hp keep hu
     unfold vm at h1
     have hargs:=cc.2.eval.list args.toList
     obtain ⟨fn,tmps,asg,body,hrun,hround⟩:=hR (N - 1) _ _ _ _ _ _ _ cc.1 cn.1 cn.2.1 cn.2.2 hargs hl cu h1
     refine ⟨lz none P o a w,?_⟩
     rw [Oper.semAt_eq _ _ _ (Ee he),amm he hfv,show args.map a.eval=(args.toList.map a.eval).toArray from (by apply Array.ext';simp),hrun]
     refine ⟨(fun h=>(by cases h)),hround.mono ?_⟩
     rintro e w' ⟨ex,st',g',hX,rfl,hc',hl',hu'⟩
     have hext:=hc'.base.aat (fun o h _=>cn.2.2 o h)
     have hcB:jh B g' st' w':=⟨hc'.ok,fun o h1 _=>hc'.fresh o h1 (fun h=>h),cc.1.base.comp hc'.base cn.1 (fun o h=>(hnf o h).elim) (fun n hn=>by subst hn;exact .inr hO),Nat.le_trans cn.1 hc'.aw⟩
     have hr':=(cc.2.ext hext).put (.sc (.bool (O4 ex))) (q9 hd ho)
     show wpOpsIn (g8 none) N P ops Q is (a.put o.dst (.bool (O4 ex))) w'
     cases ex with
     |normal=>exact ih is hmem' his _ _ st' g' w' _ hX hcB hr' (by rw [put_defers];exact hdf) hl' hu'
     |ret=>exact ih is hmem' his _ _ st' g' w' _ hX hcB hr' (by rw [put_defers];exact hdf) hl' hu'
     |exit id=>exact ih is hmem' his _ _ st' g' w' _ hX hcB hr' (by rw [put_defers];exact hdf) hl' hu'
   ·rw [hw,if_neg (by simp)]
    refine ⟨lz none P o a w,?_⟩
    exact ih is hmem' his pe _ st g w _ h1 hc (hr.put (.sc _) (q9 hd ho)) (by rw [put_defers];exact hdf) hl hu
theorem avg {P:Program} [KP P] {T:ec} (hT:ak P T) (hm:P.follows .mixedOrders=true) {N:Nat} {B:fj} {nt:NT} {l:Nat} {rec:s6} {R:Gp} (hnf:B.lr) (hp:B.aw≤1000) (hR:Yk P l rec R B) (hO:B.O l) :
 ∀ (c:Code),du nt c=true→∀ (Q:QI) pe L st g w a,oa P T l R B.aw c Q pe L st→jh B g st w→gv g w nt L a.tmps→a.defers=[]→w.heap[l]? = some (.loop (rec.at pe))→ia g st.h l →
  c.wpIn (g8 none) N P (Hx B nt l rec Q) a w:=by
 intro c
 induction c with
 |skip=>intro _ Q pe L st g w a h hc hr hd hl hu;exact wpIn_skip (Hx.mk' (e:=.normal) h hc hr hd hl hu)
 |label k=>intro _ Q pe L st g w a h hc hr hd hl hu;exact wpIn_label (Hx.mk' (e:=.normal) h hc hr hd hl hu)
 |exit id=>intro _ Q pe L st g w a h hc hr hd hl hu;exact wpIn_exit (Hx.mk' (e:=.exit id) h hc hr hd hl hu)
 |ret=>intro _ Q pe L st g w a h hc hr hd hl hu;exact wpIn_ret (Hx.mk' (e:=.ret) h hc hr hd hl hu)
 |region id ops draw=>
  intro hs Q pe L st g w a h hc hr hd hl hu
  simp only [du,Bool.and_eq_true] at hs
  cases draw with
  |false=>exact wpIn_region (asx hT hnf hp hR hO hs.2 hs.1 (fun pe L st g w a h hc hr hd hl hu=>Hx.mk' (e:=.normal) h hc hr hd hl hu) ops.toList _ (by simp) (Jz ops) pe L st g w a h hc hr hd hl hu)
  |true=>
   have hc0:=hc.N4 B.aw (fun _=>False) hc.aw (far:=fun _=>False) (fun o h=>(hnf o h).elim)
   refine Z9 hT.toF hm hs.2 hs.1 (fun _ _ _ _ _ _ h=>h) (fun L' st' g' w' a' h' hc' hr' _ hdd=>?_) h hc0 hr (by rw [hd];exact Marks.nil _ _ _ _)
   have hun:=hc'.base.Lk (bt hl) hu (fun h=>h)
   exact Hx.mk' (e:=.normal) h' ⟨hc'.ok,fun o h1 _=>hc'.fresh o h1 (fun h=>h),hc.base.comp hc'.base (Nat.le_refl _) (fun o h=>(hnf o h).elim) (fun _ h=>h.elim),hc'.aw⟩ hr' (hdd.trans hd) (hun.2.trans hl) hun.1
 |seq x y ihx ihy=>
  intro hs Q pe L st g w a h hc hr hd hl hu
  simp only [du,Bool.and_eq_true] at hs
  refine wpIn_seq (wpIn_mono (ihx hs.1 _ pe L st g w a h hc hr hd hl hu) ?_)
  rintro ex a' w' ⟨e,pe',L',st',g',rfl,hq,hc',hr',hd',hl',hu'⟩
  cases e with
  |normal=>exact ihy hs.2 Q pe' L' st' g' w' a' hq hc' hr' hd' hl' hu'
  |exit id=>exact ⟨.exit id,pe',L',st',g',rfl,hq,hc',hr',hd',hl',hu'⟩
  |ret=>exact ⟨.ret,pe',L',st',g',rfl,hq,hc',hr',hd',hl',hu'⟩
 |cond c x y ihx ihy=>
  intro hs Q pe L st g w a h hc hr hd hl hu
  simp only [du,Bool.and_eq_true] at hs
  obtain ⟨v,hv,h1,h2⟩:=Mw h
  have hev:=Q7 (hr.eval c) hv
  cases v with
  |true=>exact wpIn_cond_true hev (ihx hs.1 Q pe L st g w a (h1 rfl) hc hr hd hl hu)
  |false=>exact wpIn_cond_false hev (ihy hs.2 Q pe L st g w a (h2 rfl) hc hr hd hl hu)
 |block id x ih=>
  intro hs Q pe L st g w a h hc hr hd hl hu
  refine wpIn_block (wpIn_mono (ih hs _ pe L st g w a h hc hr hd hl hu) ?_)
  rintro ex a' w' ⟨e,pe',L',st',g',rfl,hq,hc',hr',hd',hl',hu'⟩
  cases e with
  |normal=>exact ⟨.normal,pe',L',st',g',rfl,hq,hc',hr',hd',hl',hu'⟩
  |ret=>exact ⟨.ret,pe',L',st',g',rfl,hq,hc',hr',hd',hl',hu'⟩
  |exit j=>
   simp only [Ow] at hq
   by_cases e:j=id
   ·subst e
    simp only [Nat.beq_refl,cond_true] at hq
    simp only [pz,Exit.inBlock,if_true]
    exact ⟨.normal,pe',L',st',g',rfl,hq,hc',hr',hd',hl',hu'⟩
   ·rw [n8 e,cond_false] at hq
    simp only [pz,Exit.inBlock,if_neg e]
    exact ⟨.exit j,pe',L',st',g',rfl,hq,hc',hr',hd',hl',hu'⟩
 |loop x ih=>
  intro hs Q pe L st g w a h hc hr hd hl hu
  obtain ⟨rfl,keep,h⟩:=h
  refine zb fun Y hY=>?_
  have hX:=h (fun vs os=>∀ g w a,jh B g (bk os) w→gv g w nt (gu keep vs) a.tmps→a.defers=[]→w.heap[l]? = some (.loop (rec.at none))→ia g (bk os).h l→Y a w) (fun vs os hb g w a hc hr hd hl hu=>by
   refine hY a w (wpIn_mono (ih hs _ _ _ _ g w a hb hc hr hd hl hu) ?_)
   rintro ex a' w' ⟨e,pe',L',st',g',rfl,hq,hc',hr',hd',hl',hu'⟩
   cases e with
   |normal=>
    obtain ⟨rfl,hq⟩:=hq
    obtain ⟨vs',os',g1,hx,k1,k2,_,k4⟩:=Lw hnf hp keep hq hc' hr'
    exact hx g1 w' a' k1 k2 hd' hl' (k4 _ (B3 hp keep hu'))
   |exit id=>exact ⟨.exit id,pe',L',st',g',rfl,hq,hc',hr',hd',hl',hu'⟩
   |ret=>exact ⟨.ret,pe',L',st',g',rfl,hq,hc',hr',hd',hl',hu'⟩)
  obtain ⟨vs',os',g1,hx,k1,k2,_,k4⟩:=Lw hnf hp keep hX hc hr
  exact hx g1 w a k1 k2 hd hl (k4 _ (B3 hp keep hu))
 |scope x ih=>intro _ Q pe L st g w a h;exact h.elim
 |rangeFunc f ps x y _ _=>intro _ Q pe L st g w a h;exact h.elim
 |goto k=>intro _ Q pe L st g w a h;exact h.elim
 |refuse why=>intro _ Q pe L st g w a h;exact h.elim
theorem aaq:∀ (args:List AV) (i t:Nat),lk (cd i args) t=if i≤t then (args[t - i]?).getD .bad else .bad
 | [],i,t=>by simp [cd,lk]
 |a::r,i,t=>by
  rw [cd,s7,aaq r (i+1) t]
  by_cases e:i=t
  ·subst e;simp
  ·rw [if_neg e]
   by_cases h:i+1≤t
   ·rw [if_pos h,if_pos (by omega),show t - i=(t - (i+1))+1 from by omega,List.getElem?_cons_succ]
   ·rw [if_neg h,if_neg (by omega)]
theorem Cc {g w} {args:List AV} {vs:List Value} {nt:Nat} (h:bp g w args vs) (h1:args.length≤nt) :
 gv g w nt (cd 0 args) (vs.toArray++Array.replicate (nt - vs.toArray.size) undef):=by
 have hl:=h.1
 refine ⟨⟨by simp;omega,fun p hp=>by cases hp⟩,fun t=>?_⟩
 rw [aaq,if_pos (Nat.zero_le _),Nat.sub_zero]
 cases ha:args[t]? with
 |none=>exact .bad _
 |some a=>
  obtain ⟨v,hv,hr⟩:=h.get ha
  have ht:=(List.getElem?_eq_some_iff.1 hv).1
  rw [Array.getD_eq_getD_getElem?,Array.getElem?_append_left (by simp;omega)]
  simp only [List.getElem?_toArray,hv]
  exact hr
theorem Nh {g w} {nt:NT}:∀ (ps:List Tmp) (args:List AV) (vs:List Value) (L:SL) (tmps:Array Value),ps.all (fun t=>nt.has t)=true→args.length=ps.length→bp g w args vs→gv g w nt L tmps →
 gv g w nt (Af ps args L) ((ps.zip vs).foldl (fun t (p,v)=>t.setIfInBounds p v) tmps)
 | [],args,vs,L,tmps,_,hl,hr,h=>by
  cases args with
  |nil=>simpa [Af] using h
  |cons a r=>simp at hl
 |t::ps,args,vs,L,tmps,hps,hl,hr,h=>by
  cases args with
  |nil=>simp at hl
  |cons a args=>
   match vs,hr with
   | [],hr=>have:=hr.1;simp at this
   |v::vs,hr=>
    simp only [List.all_cons,Bool.and_eq_true] at hps
    have ht:=NT.Ks hps.1
    refine Nh ps args vs ((t,a)::L) (tmps.setIfInBounds t v) hps.2 (by simpa using hl) hr.tail ⟨h.1.set hps.1,fun u=>?_⟩
    rw [s7,Array.getD_eq_getD_getElem?,Array.getElem?_setIfInBounds]
    by_cases e:t=u
    ·subst e;rw [if_pos rfl,if_pos rfl,if_pos (by rw [h.1.size];exact ht.1)];exact hr.head
    ·rw [if_neg e,if_neg e,← Array.getD_eq_getD_getElem?];exact h.2 u
theorem aqw {P:Program} [KP P] {T:ec} (hT:ak P T) (hm:P.follows .mixedOrders=true) {B1:fj} {l:Nat} {nt:NT} {rec:s6} {L0:SL} (hnf:B1.lr) (hps:rec.params.toList.all (fun t=>nt.has t)=true)
 (hs1:du nt rec.assign=true) (hs2:du nt rec.body=true) (hp1:rec.assign.qw=true) (hp2:rec.body.qw=true) (hL0:∀ g h w,qg B1 g h w→gv g w nt L0 rec.tmps) :
 Yk P l rec (mb rec.params.toList (fun p=>wl P T p rec.assign) (fun p=>wl P T p rec.body) L0) B1:=by
 intro N p args X g st w vs hc hpp hn1 hn2 hargs hl hu hR
 obtain ⟨hlen,hp1000,hA⟩:=hR
 have hlen:=Nat.eq_of_beq_eq_true hlen
 have hp1000:=Nat.le_of_ble_eq_true hp1000
 have hvl:vs.length=args.length:=hargs.1
 have hsz:args.length=rec.params.size:=hlen.trans (Array.length_toList ..)
 have hy:=run_yield (P:=P) (args:=vs.toArray) hl (by show vs.toArray.size=rec.params.size;rw [List.size_toArray,hvl,hsz])
 refine ⟨_,_,_,_,hy,roundIn_of_wpIn trivial ?_⟩
 have hB2:=hc.N4 p (fun _=>False) hn1 (far:=fun _=>False) (fun o h=>(hnf o h).elim)
 have hrel:=Nh rec.params.toList args vs L0 rec.tmps hps hlen hargs (hL0 _ _ _ hc.base)
 have hfold:(((rec.at none).params.zip vs.toArray).foldl (fun tmps (x:Tmp × Value)=>tmps.setIfInBounds x.1 x.2) (rec.at none).tmps)=((rec.params.toList.zip vs).foldl (fun t (x:Tmp × Value)=>t.setIfInBounds x.1 x.2) rec.tmps):=by
  rw [← Array.foldl_toList]
  simp [s6.at]
 have h1:=abr hT hm (ro:=some l) (N:=N) (B:=j6 g st.h w p (fun _=>False)) (nt:=nt) (fun _ h=>h) hp1000 rec.assign hs1 hp1 _ _ st g w { tmps:=((rec.at none).params.zip vs.toArray).foldl (fun tmps (x:Tmp × Value)=>tmps.setIfInBounds x.1 x.2) (rec.at none).tmps,defers:=[] } hA hB2
  (by show gv g w nt _ (((rec.at none).params.zip vs.toArray).foldl (fun tmps (x:Tmp × Value)=>tmps.setIfInBounds x.1 x.2) (rec.at none).tmps);rw [hfold];exact hrel) (Marks.nil _ _ _ _)
 refine wpIn_mono h1 ?_
 rintro ex a1 w1 ⟨e,L1,ff,g1,rfl,hq,hc1,hr1,hd1⟩
 cases e with
 |exit id=>exact hq.elim
 |ret=>exact hq.elim
 |normal=>
  have hun:=hc1.base.Lk (bt hl) hu (fun h=>h)
  have hl1:=hun.2.trans hl
  refine ⟨_,run_beginRound hl1 rfl,?_⟩
  have hw1:jh (j6 g st.h w p (· = l)) g1 ff w1:=⟨hc1.ok,hc1.fresh,hc1.base.aww (fun _ h=>h.elim),hc1.aw⟩
  have hp2':=wb (r':={ rec.at none with state:=.busy }) hw1 hl1 hun.1 (.inl rfl)
  have hB3:=hp2'.1.N4 p (fun _=>False) hc1.aw (far:=fun _=>False) (fun _ h=>h)
  have h2:=abr hT hm (ro:=some l) (N:=N) (B:=j6 g1 ff.h (gg w1 l (.loop { rec.at none with state:=.busy })) p (fun _=>False)) (nt:=nt) (fun _ h=>h) hp1000 rec.body hs2 hp2 _ _ ff g1 _ a1 hq hB3 (hr1.ext hp2'.2) (hd1.wb hl1)
  refine wpIn_mono h2 ?_
  rintro ex a3 w3 ⟨e,L3,st3,g3,rfl,hq3,hc3,hr3,hd3⟩
  have hl2:(gg w1 l (.loop { rec.at none with state:=.busy })).heap[l]? = some (.loop { rec.at none with state:=.busy }):=gp _ (bt hl1)
  have hun3:=hc3.base.Lk (bt hl2) hun.1 (fun h=>h)
  have hl3:=hun3.2.trans hl2
  have hc3':jh (j6 g st.h w p (· = l)) g3 st3 w3:=⟨hc3.ok,hc3.fresh,hp2'.1.base.comp hc3.base (Nat.le_refl _) (fun _ h=>h) (fun _ h=>h.elim),hc3.aw⟩
  cases e with
  |normal=>
   refine ⟨_,_,run_endRound none hl3,.normal,st3,g3,hq3,rfl,(wb (r':=rec.at none) hc3' hl3 hun3.1 (.inl rfl)).1,gp _ (bt hl3),hun3.1⟩
  |ret=>
   refine ⟨_,_,run_endRound (some .ret) hl3,.ret,st3,g3,hq3,rfl,(wb (r':=rec.at (some .ret)) hc3' hl3 hun3.1 (.inl rfl)).1,gp _ (bt hl3),hun3.1⟩
  |exit id=>
   refine ⟨_,_,run_endRound (some (.exit id)) hl3,.exit id,st3,g3,hq3,rfl,(wb (r':=rec.at (some (.exit id))) hc3' hl3 hun3.1 (.inl rfl)).1,gp _ (bt hl3),hun3.1⟩
theorem aeh {g w a v f caps} (h:F7 a=some (f,caps)) (hr:Rel g w a v):∃ vb:Array Value,v = .func (.func f) #[] vb∧bp g w caps vb.toList:=by
 unfold F7 at h
 split at h
 ·rename_i fx first captured
  split at h
  ·rename_i k
   cases h
   cases hr with
   |fn _ _ _ va vb hs hh hs' hh'=>
    have:va = #[]:=Array.eq_empty_of_size_eq_zero (by simpa using hs)
    subst this
    exact ⟨vb,rfl,⟨by simpa using hs',fun i x y hx hy=>hh' i x y hx (by simpa using hy)⟩⟩
  ·cases h
 ·rename_i x
  split at h
  ·rename_i fx first captured
   split at h
   ·rename_i k hf
    cases h
    have:=hr.exact rfl
    subst this
    have:first = #[]:=by apply Array.ext';simpa using hf
    subst this
    exact ⟨captured,rfl,bp.C7 g w _⟩
   ·cases h
  ·cases h
 ·cases h
theorem aj4 {P:Program} [KP P] {f nt:Nat} {code:Code} (h:xq P f=some (nt,code)) :
 ∃ fn,P.funcs[f]? = some fn∧fn.body=some code∧nv P f=true∧du fn.ntmps code=true∧fn.results = #[]∧nt=fn.ntmps:=by
 unfold xq at h
 split at h
 ·rename_i fn hf
  split at h
  ·rename_i body hb
   cases hc:(nv P f && du fn.ntmps body && fn.results.isEmpty) with
   |false=>rw [hc] at h;cases h
   |true=>
    rw [hc] at h
    cases h
    simp only [Bool.and_eq_true] at hc
    exact ⟨fn,hf,hb,hc.1.1,hc.1.2,Array.isEmpty_iff.1 hc.2,rfl⟩
  ·cases h
 ·cases h
theorem aro {P:Program} [KP P] {T:ec} (hT:ak P T) (hm:P.follows .mixedOrders=true) {N:Nat} {B:fj} {nt:NT} (hnf:B.lr) (hp:B.aw≤1000) (hn0:B.n0≤B.w.heap.size) (f:Operand) (ps:Array Tmp) (asg body:Code) (hs:du nt (.rangeFunc f ps asg body)=true) :
 Ov P none N B nt (.rangeFunc f ps asg body) (wl P T B.aw (.rangeFunc f ps asg body)):=by
 intro Q L st g w a h hc hr hd
 simp only [du,Bool.and_eq_true] at hs
 obtain ⟨⟨⟨⟨hs1,hs2⟩,hs3⟩,hs4⟩,hs5⟩:=hs
 obtain ⟨keep,hp1,h⟩:=h
 have hp1:=Nat.le_of_ble_eq_true hp1
 have cc:=D1 hnf hp keep hc hr
 have cn:=Nj hc keep L
 have cm:=A2 (L:=L) hp keep hd
 generalize ep B.aw keep L st=os at hp1 h cc cn cm
 generalize gi B.aw keep L st=vs at h cc
 generalize g.dr (gj B.aw keep L st)=g2 at cc cn cm
 obtain ⟨hc2,hr2⟩:=cc
 obtain ⟨hn1,hn2,hn3⟩:=cn
 generalize gu keep vs=L0 at h hr2
 unfold Ja at h
 cases hfn:F7 (dt L0 f) with
 |none=>rw [hfn] at h;exact h.elim
 |some q=>
 obtain ⟨gf,caps⟩:=q
 rw [hfn] at h
 simp only at h
 unfold Jm at h
 cases hib:xq P gf with
 |none=>rw [hib] at h;exact h.elim
 |some q=>
 obtain ⟨nt',code⟩:=q
 rw [hib] at h
 obtain ⟨hle,h⟩:=h
 have hle:=Nat.le_of_ble_eq_true hle
 obtain ⟨fn,hf1,hf2,hf3,hf4,hf5,rfl⟩:=aj4 hib
 obtain ⟨vb,hev,hcaps⟩:=aeh hfn (hr2.eval f)
 refine wpIn_rangeFunc fun fno hfno=>?_
 obtain ⟨rec,hrec⟩:∃ rec:s6,rec = { fn:=fno,tmps:=a.tmps,params:=ps,assign:=asg,body:=body,defers:=w.heap.size }:=⟨_,rfl⟩
 obtain ⟨W1,hW1⟩:∃ W1,(w.alloc (.deferred (some []))).alloc (.loop (rec.at none))=W1:=⟨_,rfl⟩
 have hsz:W1.heap.size=w.heap.size+2:=by rw [← hW1];simp
 have hold:∀ b,b<w.heap.size→W1.heap[b]? = w.heap[b]? := fun b hb=>by
  rw [← hW1,RowKit.Below.heap_alloc _ _ _ (by simp;omega)];exact RowKit.Below.heap_alloc w _ _ hb
 have hL1:W1.heap[w.heap.size+1]? = some (.loop (rec.at none)):=by
  rw [← hW1];have:=World.alloc_heap_new (w.alloc (.deferred (some []))) (.loop (rec.at none));rwa [World.size_alloc] at this
 have hD1:W1.heap[w.heap.size]? = some (.deferred (some [])):=by
  rw [← hW1];exact (RowKit.Below.heap_alloc _ _ _ (by simp)).trans (World.alloc_heap_new w _)
 have hgrow:=al2 (w':=W1) (bk os).nx (bk os).nx hc2.ok (by omega) hold (by rw [← hW1];rfl) (by rw [← hW1];rfl) (by rw [← hW1];rfl)
 have hcW:jh B g2 (bk os) W1:=hc2.step (hnf.Fl _ _) ⟨Nat.le_refl _,hgrow.1⟩ hgrow.2
 have hrW:=hr2.ext hgrow.1.ext
 have hmW:=cm.step hgrow.1
 have hunew:∀ b,w.heap.size≤b→ia g2 (bk os).h b:=fun b hb o base ho hi=>by
  obtain ⟨x,hx⟩:=Option.isSome_iff_exists.1 ho
  obtain ⟨c,base',q1,_,q3⟩:=hc2.ok.obj o x hx
  rw [hi] at q1;cases q1
  have:=q3.lt
  omega
 have hB1:=hcW.N4 os.length (· = w.heap.size+1) hn2 (far:=fun _=>False) (fun o h=>(hnf o h).elim)
 have hlen:(#[Value.func (.yield (w.heap.size+1)) #[] #[]]++vb).size≤fn.ntmps:=by
  have:=hcaps.1
  simp at this ⊢
  omega
 refine ⟨w.heap.size+1,[mark w.heap.size],W1,{ target:=.fn (.func gf) vb,args:=#[.func (.yield (w.heap.size+1)) #[] #[]] },W1,gf,#[.func (.yield (w.heap.size+1)) #[] #[]]++vb,W1,?_,?_,fun _ _=>trivial,?_,(fun h=>(by cases h)),?_⟩
 ·rw [← hW1,hrec];exact run_enterLoop_outer _ _ _ _ _
 ·simp only [resolve,hev]
  simp [go_sem]
 ·simp [invoke,go_sem,ur hf3]
 ·refine callsIn_of_wp_marks hf1 hf2 trivial ?_
  have hR:=aqw hT hm (B1:=j6 g2 (bk os).h W1 os.length (· = w.heap.size+1)) (l:=w.heap.size+1) (nt:=nt) (rec:=rec) (L0:=L0) (fun _ h=>h) (by rw [hrec];simpa [Array.all_toList] using hs1) (by rw [hrec];exact hs2) (by rw [hrec];exact hs3) (by rw [hrec];exact hs4) (by rw [hrec];exact hs5)
   (fun g' h' w' hb=>by rw [hrec];exact hrW.ext (hb.aat (fun o h _=>hn3 o h)))
  have hR':Yk P (w.heap.size+1) rec (mb ps.toList (fun p=>wl P T p asg) (fun p=>wl P T p body) L0) (j6 g2 (bk os).h W1 os.length (· = w.heap.size+1)):=by rw [hrec] at hR ⊢;exact hR
  have hrel:gv g2 W1 fn.ntmps (cd 0 (.sc (.func (.yield (w.heap.size+1)) #[] #[])::caps)) ((#[Value.func (.yield (w.heap.size+1)) #[] #[]]++vb)++Array.replicate (fn.ntmps - (#[Value.func (.yield (w.heap.size+1)) #[] #[]]++vb).size) undef):=by
   have hrl:bp g2 W1 (.sc (.func (.yield (w.heap.size+1)) #[] #[])::caps) (.func (.yield (w.heap.size+1)) #[] #[]::vb.toList):=bp.cons (.sc _) (hcaps.ext hgrow.1.ext)
   have:=Cc (nt:=fn.ntmps) hrl (by simpa using hle)
   have e:(Value.func (.yield (w.heap.size+1)) #[] #[]::vb.toList).toArray = #[Value.func (.yield (w.heap.size+1)) #[] #[]]++vb:=by apply Array.ext';simp
   rw [e] at this
   exact this
  have hw:=avg hT hm (N:=N - 1) (B:=j6 g2 (bk os).h W1 os.length (· = w.heap.size+1)) (fun _ h=>h) hp1 hR' (.inl rfl) code hf4 _ none _ (bk os) g2 W1 { tmps:=(#[Value.func (.yield (w.heap.size+1)) #[] #[]]++vb)++Array.replicate (fn.ntmps - (#[Value.func (.yield (w.heap.size+1)) #[] #[]]++vb).size) undef,defers:=[] } (h _) hB1 hrel rfl hL1 (hunew _ (by omega))
  refine wpIn_mono hw ?_
  rintro ex a' w' ⟨e,pe,L',st',g',rfl,hq,hc',hr',hd',hl',hu'⟩
  have fin:Zf Q L0 .normal pe L' st'→bodyPostM (g8 none) (N - 1) P fn (rangePost (g8 none) N P (w.heap.size+1) (Fin B nt Q) { a with defers:=[mark w.heap.size]++a.defers }) .ret a' w':=by
   intro hq
   show LeavesInM (g8 none) (N - 1) P fn a'.tmps _ a'.defers .returning w'
   rw [hd']
   have hres:(results fn a'.tmps).run P w' = .ok (.tuple #[]) w':=by simp [results,hf5]
   refine ⟨_,hres,?_⟩
   have hend:=run_endLoop (P:=P) hl' (by cases pe<;>simp [s6.at])
   refine ⟨_,_,hend,?_⟩
   have hput:=wb (r':={ rec.at pe with state:=.exhausted }) hc' hl' hu' (.inl rfl)
   have hb:=hput.1.base
   have hcB:jh B g' st' (gg w' (w.heap.size+1) (.loop { rec.at pe with state:=.exhausted })):=⟨hput.1.ok,fun o h1 _=>hput.1.fresh o h1 (fun h=>h),hcW.base.comp hb hn1 (fun o h=>(hnf o h).elim) (fun n hn=>by subst hn;have:=hc.base.size;exact .inl (by omega)),Nat.le_trans hn1 hput.1.aw⟩
   have hrB:=hrW.ext (hb.aat (fun o h _=>hn3 o h))
   have hmB:Marks B.D B.n0 st'.h g' (gg w' (w.heap.size+1) (.loop { rec.at pe with state:=.exhausted })) ([mark w.heap.size]++a.defers):=by
    have hm2:Marks B.D B.n0 (bk os).h g2 W1 ([mark w.heap.size]++a.defers):=by
     obtain ⟨bs,e1,e2,e3⟩:=hmW
     obtain ⟨bs0,e10,e20,e30⟩:=cm
     have hbs:bs=bs0:=by
      have:bs.map mark=bs0.map mark:=List.append_cancel_right (e1.symm.trans e10)
      exact (List.map_inj_right (fun x y e=>by simpa [mark] using e)).1 this
     subst hbs
     refine ⟨w.heap.size::bs,by simp [e1],List.nodup_cons.2 ⟨fun hmem=>?_,e2⟩,fun b hb=>?_⟩
     ·have:=bt (e30 _ hmem).2.1;omega
     ·rcases List.mem_cons.1 hb with rfl|hb
      ·have:=hc.base.size
       exact ⟨by omega,hD1,hunew _ (Nat.le_refl _)⟩
      ·exact e3 b hb
    exact Marks.base hb hm2 (fun b hbl=>by subst hbl;exact ⟨_,hL1⟩)
   cases pe with
   |none=>exact Fin.mk' (e:=.normal) hq hcB hrB hmB
   |some e=>
    show (alu e).wpIn (g8 none) N P (Fin B nt Q) _ _
    cases e with
    |normal=>exact wpIn_skip (Fin.mk' (e:=.normal) hq hcB hrB hmB)
    |ret=>exact wpIn_ret (Fin.mk' (e:=.ret) hq hcB hrB hmB)
    |exit id=>exact wpIn_exit (Fin.mk' (e:=.exit id) hq hcB hrB hmB)
  cases e with
  |normal=>exact fin hq
  |ret=>exact fin hq
  |exit id=>exact hq.elim
theorem aii {P:Program} [KP P] {T:ec} (hT:ak P T) (hm:P.follows .mixedOrders=true) {N:Nat} {B:fj} {nt:NT} (hnf:B.lr) (hp:B.aw≤1000) (hn0:B.n0≤B.w.heap.size) (c:Code) (hs:du nt c=true):Ov P none N B nt c (wl P T B.aw c):=
 aon hT hm hnf hp true (fun _ f ps asg body h=>aro hT hm hnf hp hn0 f ps asg body h) c hs (.inl rfl)
theorem Ff {P:Program} [KP P] {F:Fence} {n:Nat} {fn:Func} {tmps:Array Value} {R:Ending→World→Prop} (Good:World→Prop) (S:Nat→Prop) (hput:∀ w b,Good w→S b→w.heap[b]? = some (.deferred (some []))→Good (gg w b (.deferred none)))
 (hres:∀ w,Good w→∃ v,(results fn tmps).run P w = .ok v w∧R (.returned v) w) :
 ∀ (bs:List Nat) (w:World),Good w→bs.Nodup→(∀ b ∈ bs,S b∧w.heap[b]? = some (.deferred (some [])))→LeavesInM F n P fn tmps R (bs.map mark) .returning w:=by
 intro bs
 induction bs with
 |nil=>intro w hg _ _;exact hres w hg
 |cons b bs ih=>
  intro w hg hnd hall
  obtain ⟨q1,q2⟩:=hall b (by simp)
  rw [List.nodup_cons] at hnd
  refine ⟨by simp,.inl ⟨b,gg w b (.deferred none),rfl,?_,?_⟩⟩
  ·simp [Instr.takeDeferred,Sem.run_bind,getObj,setObj,Sem.run,q2,Result.andThen,gg]
  ·refine ih _ (hput w b hg q1 q2) hnd.2 (fun c hc=>?_)
   obtain ⟨p1,p2⟩:=hall c (by simp [hc])
   exact ⟨p1,(ef w _ (fun e=>hnd.1 (by rw [← e];exact hc))).trans p2⟩
end
end Go.Vm
namespace Go.Vm
variable [TK]
def gK (b0:Nat) (K:Nat→Nat→Prop):Gh:={ b0,inj:=fun _=>none,K }
structure v7 (g:Gh) (h:Tr bh) (K':Nat→Nat→Prop):Prop where
 K:∀ b j,g.K b j→K' b j
 rows:∀ o cells k s e,h.get o=some (.row cells k s e)→∀ b base,g.inj o=some (b,base)→∀ j,s=0∨j<cells.length→K' b (base+j)
theorem v7.nil (g:Gh) (K:Nat→Nat→Prop) (h:∀ b j,g.K b j→K b j):v7 g .nil K:=⟨h,fun o cells k s e ho=>by rw [Tr.get_nil] at ho;cases ho⟩
structure Plain (c:AV):Prop where
 dr:∀ τ,c.dr τ=c
 names:c.names=[]
 one:c.one=true
 known:c.known=true
structure dh (α:Type) where
 sz:Nat
 agg:Bool
 cells:Bool → α→List AV
 dec:Bool→Tr bh→List AV→Option α
 len:∀ l x,(cells l x).length=sz
 rt:∀ fr h l x,(fr=true→l=true)→dec fr h (cells l x)=some x
 one:agg=false→∀ l x,∃ c,cells l x=[c]∧c.cells=[c]∧c.known=true
 pl:∀ l x,∀ c ∈ cells l x,Plain c
 fr:∀ x,∀ c ∈ cells true x,c.fresh=true
 kd:LK
 G7:sz=1→∀ {g w l x c v},c ∈ cells l x→Rel g w c v→ld v=kd
 ok:∀ {fr g h w K b0 l vs x},Ok g h w→v7 g h K→(fr=true→b0≤g.b0)→bp g w l vs→dec fr h l=some x→bp (gK b0 K) w (cells fr x) vs
def dh.val {α:Type} (C:dh α) (l:Bool) (x : α):AV:=bif C.agg then .agg (C.cells l x) else (C.cells l x).headD .bad
def AV.isAgg:AV→Bool
 |.agg _=>true
 |.sc v=>match v with|.agg _=>true|_=>false
 |_=>false
noncomputable def dh.fq {α:Type} (C:dh α) (fr:Bool) (h:Tr bh) (a:AV):Option α:=bif a.known && (a.isAgg == C.agg) then C.dec fr h a.cells else none
theorem dh.wv {α:Type} (C:dh α) (l:Bool) (x : α):(C.val l x).cells=C.cells l x:=by
 unfold dh.val
 cases h:C.agg with
 |true=>rfl
 |false=>
  obtain ⟨c,h1,h2,_⟩:=C.one h l x
  rw [cond_false,h1]
  exact h2
theorem Rb {c:AV} (h:c.cells=[c]):c.isAgg=false:=by
 cases c with
 |agg l=>
  simp only [AV.cells] at h
  have:=congrArg (SizeOf.sizeOf:List AV→Nat) h
  simp at this
  omega
 |sc v=>
  cases v with
  |agg vs=>
   obtain ⟨l⟩:=vs
   simp only [AV.cells,Value.cells] at h
   match l,h with
   | [x],h=>
    simp only [List.map_cons,List.map_nil,List.cons.injEq,and_true,AV.sc.injEq] at h
    have:=congrArg (SizeOf.sizeOf:Value→Nat) h
    simp at this
    omega
   | [],h=>simp at h
   |_::_::_,h=>simp at h
  |_=>rfl
 |_=>rfl
theorem alz {α:Type} (C:dh α) (l:Bool) (x : α):(C.val l x).isAgg=C.agg:=by
 unfold dh.val
 cases h:C.agg with
 |true=>rfl
 |false=>
  obtain ⟨c,h1,h2,_⟩:=C.one h l x
  rw [cond_false,h1]
  exact Rb h2
theorem bp.split {g w l l' vs} (h:bp g w (l++l') vs):∃ u u',vs=u++u'∧bp g w l u∧bp g w l' u':=by
 have h1:=h.take l.length
 have h2:=h.drop l.length
 rw [List.take_left] at h1
 rw [List.drop_left] at h2
 exact ⟨_,_,(List.take_append_drop l.length vs).symm,h1,h2⟩
theorem I7 {α:Type} (C:dh α) (l:Bool) (x : α):(C.val l x).known=true:=by
 unfold dh.val
 cases h:C.agg with
 |true=>rfl
 |false=>
  obtain ⟨c,h1,_,h2⟩:=C.one h l x
  rw [cond_false,h1]
  exact h2
theorem dh.Jv {α:Type} (C:dh α) (fr:Bool) (h:Tr bh) (l:Bool) (x : α) (hl:fr=true→l=true):C.fq fr h (C.val l x)=some x:=by
 unfold dh.fq;rw [I7,alz,C.wv,C.rt _ _ _ _ hl];simp
theorem Zq {α:Type} (C:dh α) {fr:Bool} {h:Tr bh} {a:AV} {x : α} (hd:C.fq fr h a=some x):a.known=true∧a.isAgg=C.agg∧C.dec fr h a.cells=some x:=by
 unfold dh.fq at hd
 cases hk:(a.known && (a.isAgg == C.agg)) with
 |false=>rw [hk] at hd;cases hd
 |true=>rw [hk] at hd;simp at hk;exact ⟨hk.1,hk.2,hd⟩
theorem dh.Rr {α:Type} (C:dh α) {fr g h w K b0 a v x} (hok:Ok g h w) (hl:v7 g h K) (hb:fr=true→b0≤g.b0) (hr:Rel g w a v) (hd:C.fq fr h a=some x):Rel (gK b0 K) w (C.val fr x) v:=by
 obtain ⟨h1,h2,h3⟩:=Zq C hd
 have hc:=hr.cells h1
 have hx:=C.ok (b0:=b0) hok hl hb hc h3
 unfold dh.val
 cases hg:C.agg with
 |true=>
  rw [hg] at h2
  have:∃ vs,v = .agg vs:=by
   cases hr with
   |agg l vs=>exact ⟨vs,rfl⟩
   |sc v=>cases v<;>first|exact ⟨_,rfl⟩|cases h2
   |_=>cases h2
  obtain ⟨vs,rfl⟩:=this
  exact .agg _ vs (by simpa [Value.cells] using hx.1) (fun i a v ha hv=>hx.2 i a v ha (by simpa [Value.cells] using hv))
 |false=>
  obtain ⟨c,h4,_⟩:=C.one hg fr x
  rw [cond_false,h4]
  rw [h4] at hx
  have hv:v.cells.toList=[v]:=by
   rw [hg] at h2
   have h5:=hx.1
   cases hr with
   |agg=>cases h2
   |sc v=>cases v<;>first|rfl|cases h2
   |bad=>cases h1
   |_=>rfl
  rw [hv] at hx
  exact hx.head
theorem Fe {l:List AV} (h:∀ c ∈ l,c.names=[]):AV.names.go l=[]:=by
 induction l with
 |nil=>rfl
 |cons a l ih=>simp [AV.names.go,h a (by simp),ih (fun c hc=>h c (by simp [hc]))]
theorem K3 {l:List AV} (h:∀ c ∈ l,c.fresh=true):AV.fresh.go l=true:=by
 induction l with
 |nil=>rfl
 |cons a l ih=>simp [AV.fresh.go,h a (by simp),ih (fun c hc=>h c (by simp [hc]))]
theorem Pf {τ:Nat→Option Nat} {l:List AV} (h:∀ c ∈ l,c.dr τ=c):AV.dr.go τ l=l:=by
 induction l with
 |nil=>rfl
 |cons a l ih=>simp [AV.dr.go,h a (by simp),ih (fun c hc=>h c (by simp [hc]))]
theorem Jc {α:Type} (C:dh α) (l:Bool) (x : α):(C.agg=true∧C.val l x = .agg (C.cells l x))∨(C.agg=false∧C.val l x ∈ C.cells l x):=by
 cases h:C.agg with
 |true=>exact .inl ⟨rfl,by simp [dh.val,h]⟩
 |false=>
  obtain ⟨c,h1,_⟩:=C.one h l x
  refine .inr ⟨rfl,?_⟩
  simp [dh.val,h,h1]
theorem Lv {α:Type} (C:dh α) (τ:Nat→Option Nat) (l:Bool) (x : α):(C.val l x).dr τ=C.val l x:=by
 rcases Jc C l x with ⟨_,h⟩|⟨_,h⟩
 ·rw [h,AV.dr,Pf (fun c hc=>(C.pl l x c hc).dr τ)]
 ·exact (C.pl l x _ h).dr τ
theorem J2 {α:Type} (C:dh α) (l:Bool) (x : α):(C.val l x).names=[]:=by
 rcases Jc C l x with ⟨_,h⟩|⟨_,h⟩
 ·rw [h,AV.names];exact Fe (fun c hc=>(C.pl l x c hc).names)
 ·exact (C.pl l x _ h).names
theorem aom {α:Type} (C:dh α) (x : α):(C.val true x).fresh=true:=by
 rcases Jc C true x with ⟨_,h⟩|⟨_,h⟩
 ·rw [h,AV.fresh];exact K3 (fun c hc=>C.fr x c hc)
 ·exact C.fr x _ h
noncomputable def xp {α:Type} (C:dh α) (fr:Bool) (h:Tr bh):List AV→Option (List α)
 | []=>some []
 |a::r=>match C.fq fr h a,xp C fr h r with
  |some x,some xs=>some (x::xs)
  |_,_=>none
noncomputable def vi {α:Type} (C:dh α) (fr:Bool) (h:Tr bh):Nat→List AV→Option (List α)
 |0,_=>some []
 |n+1,l=>match C.dec fr h (l.take C.sz),vi C fr h n (l.drop C.sz) with
  |some x,some xs=>some (x::xs)
  |_,_=>none
theorem S2 {α:Type} (C:dh α) (fr:Bool) (h:Tr bh) (l:Bool) (hl:fr=true→l=true):∀ xs:List α,xp C fr h (xs.map (C.val l))=some xs
 | []=>rfl
 |x::xs=>by simp only [List.map_cons,xp,C.Jv fr h l x hl,S2 C fr h l hl xs]
theorem W6 {α:Type} (C:dh α) (fr:Bool) (h:Tr bh) (l:Bool) (hl:fr=true→l=true):∀ xs:List α,vi C fr h xs.length (xs.flatMap (C.cells l))=some xs
 | []=>rfl
 |x::xs=>by
  have h1:(C.cells l x++xs.flatMap (C.cells l)).take C.sz=C.cells l x:=by rw [← C.len l x,List.take_left]
  have h2:(C.cells l x++xs.flatMap (C.cells l)).drop C.sz=xs.flatMap (C.cells l):=by rw [← C.len l x,List.drop_left]
  simp only [List.flatMap_cons,List.length_cons,vi,h1,h2,C.rt fr h l x hl,W6 C fr h l hl xs]
theorem an7 {α:Type} (C:dh α) {fr g h w K b0} (hok:Ok g h w) (hl:v7 g h K) (hb:fr=true→b0≤g.b0):∀ (es:List AV) (vs:List Value) (xs:List α),bp g w (es.flatMap AV.cells) vs→xp C fr h es=some xs →
 bp (gK b0 K) w (xs.flatMap (C.cells fr)) vs∧xs.length=es.length:=by
 intro es
 induction es with
 |nil=>intro vs xs hr hd;simp [xp] at hd;subst hd;exact ⟨⟨by simpa using hr.1,fun i a v ha=>by simp at ha⟩,rfl⟩
 |cons e es ih=>
  intro vs xs hr hd
  rw [List.flatMap_cons] at hr
  obtain ⟨u,u',rfl,h1,h2⟩:=hr.split
  simp only [xp] at hd
  split at hd
  ·rename_i x xs' hx hxs
   simp at hd;subst hd
   obtain ⟨q1,q2⟩:=ih u' xs' h2 hxs
   exact ⟨by rw [List.flatMap_cons];exact (C.ok hok hl hb h1 (Zq C hx).2.2).append q1,by simp [q2]⟩
  ·cases hd
theorem as1 {α:Type} (C:dh α) {fr g h w K b0} (hok:Ok g h w) (hl:v7 g h K) (hb:fr=true→b0≤g.b0):∀ (n:Nat) (l:List AV) (vs:List Value) (xs:List α),bp g w l vs→l.length=n * C.sz→vi C fr h n l=some xs →
 bp (gK b0 K) w (xs.flatMap (C.cells fr)) vs∧xs.length=n:=by
 intro n
 induction n with
 |zero=>
  intro l vs xs hr hlen hd
  simp [vi] at hd;subst hd
  have:l=[]:=by apply List.eq_nil_of_length_eq_zero;omega
  subst this
  exact ⟨⟨by simpa using hr.1,fun i a v ha=>by simp at ha⟩,rfl⟩
 |succ n ih=>
  intro l vs xs hr hlen hd
  simp only [vi] at hd
  split at hd
  ·rename_i x xs' hx hxs
   simp at hd;subst hd
   have h1:=hr.take C.sz
   have h2:=hr.drop C.sz
   obtain ⟨q1,q2⟩:=ih _ _ xs' h2 (by rw [List.length_drop,hlen,Nat.succ_mul];omega) hxs
   refine ⟨?_,by simp [q2]⟩
   have:=(C.ok hok hl hb h1 hx).append q1
   rw [List.flatMap_cons,← List.take_append_drop C.sz vs]
   exact this
  ·cases hd
def Ip (sz:Nat) (kd:LK) (et:TypeId):Bool:=(match TK.sz et with|some n=>Nat.beq n sz|none=>false) && (!Nat.beq sz 1 || decide (TK.kd et=kd))
theorem av2 {sz:Nat} {kd:LK} {et:TypeId} (h:Ip sz kd et=true):TK.sz et=some sz∧(sz=1→TK.kd et=kd):=by
 unfold Ip at h
 rw [Bool.and_eq_true] at h
 obtain ⟨h1,h2⟩:=h
 constructor
 ·cases hs:TK.sz et with
  |none=>rw [hs] at h1;cases h1
  |some n=>rw [hs] at h1;rw [Nat.eq_of_beq_eq_true h1]
 ·intro e
  subst e
  simpa using h2
def vy (fr:Bool) (sz:Nat) (kd:LK) (st off len n:Nat) (et:TypeId):Bool:=!fr || (Nat.beq st 0 && (Nat.beq off 0 && Nat.beq (n * sz) len) && Ip sz kd et)
theorem aqx {sz:Nat} {kd:LK} {st off len n:Nat} {et:TypeId} (h:vy true sz kd st off len n et=true):st=0∧off=0∧n * sz=len∧TK.sz et=some sz∧(sz=1→TK.kd et=kd):=by
 simp only [vy,Bool.not_true,Bool.false_or,Bool.and_eq_true] at h
 exact ⟨Nat.eq_of_beq_eq_true h.1.1,Nat.eq_of_beq_eq_true h.1.2.1,Nat.eq_of_beq_eq_true h.1.2.2,av2 h.2⟩
noncomputable def kq {α:Type} (C:dh α) (fr:Bool) (h:Tr bh) (off len:Nat) (x:bh):Option (List α):=
 match x with
 |.row cells _ st et=>bif Nat.ble (off+len * C.sz) cells.length && vy fr C.sz C.kd st off cells.length len et then vi C fr h len ((cells.drop off).take (len * C.sz)) else none
 |_=>none
noncomputable def ij {α:Type} (C:dh α) (fr:Bool) (h:Tr bh) (a:AV):Option (List α):=
 match a with
 |.sc v=>match v with
  |.slice none 0 0=>some []
  |_=>none
 |.vl l sz es=>bif Nat.beq sz C.sz && (l || !fr) then xp C fr h es else none
 |.sl o off len sz=>bif Nat.beq sz C.sz then (h.get o).bind (kq C fr h off len) else none
 |_=>none
noncomputable def ar6 {α:Type} (C:dh α) (fr:Bool) (h:Tr bh) (l:List AV):Option (List α):=
 match l with
 | [a]=>ij C fr h a
 |_=>none
def jk (off n:Nat) (c:Nat→Value):List Value:=(List.range n).map fun j=>c (off+j)
theorem ahy {α:Type} (C:dh α) {fr b0 K w} {xs:List α} {vs:List Value} {b off cap:Nat} (hr:bp (gK b0 K) w (xs.flatMap (C.cells fr)) vs) (hcap:xs.length≤cap) (hb:fr=true→b0≤b)
 (hc:∀ j v,vs[j]? = some v→K b (off+j)∧w.cell? ⟨b,off+j,none⟩=some v)
 (hw:fr=true→Whole (gK b0 K) w b off cap C.sz xs.length (fun j=>vs.getD j undef)):Rel (gK b0 K) w (.vl fr C.sz (xs.map (C.val fr))) (.slice (some ⟨b,off,none⟩) xs.length cap):=by
 have hfm:(xs.map (C.val fr)).flatMap AV.cells=xs.flatMap (C.cells fr):=by
  rw [List.flatMap_map];congr 1;funext x;exact C.wv fr x
 have:=Rel.vl (g:=gK b0 K) (w:=w) fr C.sz (xs.map (C.val fr)) b off cap (fun j=>vs.getD j undef) (fun e he=>by
  obtain ⟨x,_,rfl⟩:=List.mem_map.1 he;rw [C.wv,C.len]) hb (by simpa using hcap)
  (fun j a ha=>by
   rw [hfm] at ha
   obtain ⟨v,hv,_⟩:=hr.get ha
   have:=hc j v hv
   exact ⟨this.1,by rw [this.2,List.getD_eq_getElem?_getD,hv];rfl⟩)
  (fun j a ha=>by
   rw [hfm] at ha
   obtain ⟨v,hv,hrel⟩:=hr.get ha
   show Rel _ _ a (vs.getD j undef)
   rw [List.getD_eq_getElem?_getD,hv];exact hrel) (fun e=>by rw [List.length_map];exact hw e)
 simpa using this
theorem asz {α:Type} (C:dh α) {fr g h w K b0 a v xs} (hok:Ok g h w) (hl:v7 g h K) (hb0:fr=true→b0≤g.b0) (hr:Rel g w a v) (hd:ij C fr h a=some xs):Rel (gK b0 K) w (.vl fr C.sz (xs.map (C.val fr))) v:=by
 cases hr with
 |sc v=>
  simp only [ij] at hd
  split at hd
  ·simp at hd;subst hd;exact .j4 _ _
  ·cases hd
 |j4 loc sz=>
  simp only [ij] at hd
  cases hb:(Nat.beq sz C.sz && (loc || !fr)) with
  |false=>rw [hb] at hd;cases hd
  |true=>rw [hb] at hd;simp [xp] at hd;subst hd;exact .j4 _ _
 |qz loc sz a=>
  simp only [ij] at hd
  cases hb:(Nat.beq sz C.sz && (loc || !fr)) with
  |false=>rw [hb] at hd;cases hd
  |true=>rw [hb] at hd;simp [xp] at hd;subst hd;exact .qz _ _ a
 |vl loc sz es b off cap c hsz hloc hcap hc hrel hwh=>
  simp only [ij] at hd
  cases hb:(Nat.beq sz C.sz && (loc || !fr)) with
  |false=>rw [hb] at hd;cases hd
  |true=>
   rw [hb,cond_true] at hd
   have hloc':fr=true→b0≤b:=fun e=>by
    rw [e] at hb
    simp at hb
    have:=hloc hb.2
    have:=hb0 e
    omega
   have hlist:bp g w (es.flatMap AV.cells) (jk 0 (es.flatMap AV.cells).length c):=by
    refine ⟨by simp [jk],fun i a v ha hv=>?_⟩
    have hi:=(List.getElem?_eq_some_iff.1 ha).1
    simp only [jk,List.getElem?_map,List.getElem?_range hi,Option.map_some,Option.some.injEq,Nat.zero_add] at hv
    subst hv
    exact hrel i a ha
   obtain ⟨q1,q2⟩:=an7 C (b0:=b0) hok hl hb0 es _ xs hlist hd
   rw [← q2]
   refine ahy C q1 (by omega) hloc' (fun j v hv=>?_) ?_
   have hj:j<(es.flatMap AV.cells).length:=by
    have:=(List.getElem?_eq_some_iff.1 hv).1;simpa [jk] using this
   simp only [jk,List.getElem?_map,List.getElem?_range hj,Option.map_some,Option.some.injEq,Nat.zero_add] at hv
   subst hv
   have:=hc j _ (List.getElem?_eq_getElem hj)
   exact ⟨hl.K _ _ this.1,this.2⟩
   intro e
   rw [e] at hb
   simp at hb
   obtain ⟨w1,⟨cs,et,w2,w3,w4,w5,w6⟩,w7,w8⟩:=hwh hb.2
   have hsz':sz=C.sz:=Nat.eq_of_beq_eq_true (by simpa using hb.1)
   rw [← hsz']
   refine ⟨fun j=>hl.K _ _ (w1 j),⟨cs,et,w2,w3,w4,w5,fun e1 j x hj hx=>?_⟩,fun e1 e2=>w7 e1 (by omega),w8⟩
   have hn : 0<es.length:=by
    rcases Nat.eq_zero_or_pos es.length with h0|h0
    ·have:=w7 e1 h0;omega
    ·exact h0
   have hfl:=E7 es hsz
   have h0:(jk 0 (es.flatMap AV.cells).length c).getD 0 undef=c 0:=by
    rw [List.getD_eq_getElem?_getD,jk,List.getElem?_map,List.getElem?_range (by rw [hfl,e1];omega)];rfl
   simp only [h0]
   exact (w6 e1 j x hj hx).imp id (fun q=>⟨q.1,fun h=>q.2 (by omega)⟩)
 |sl o off len sz b base cap hi hcap hm hroom=>
  simp only [ij] at hd
  cases hb:Nat.beq sz C.sz with
  |false=>rw [hb] at hd;cases hd
  |true=>
   rw [hb,cond_true,Option.bind_eq_some_iff] at hd
   obtain ⟨x,hx,hd⟩:=hd
   obtain ⟨b',base',hi',hbb,hrow⟩:=hok.obj o x hx
   rw [hi] at hi';cases hi'
   cases x with
   |map es=>cases hd
   |loop=>cases hd
   |row cells k st et=>
    simp only [kq] at hd
    cases hle0:(Nat.ble (off+len * C.sz) cells.length && vy fr C.sz C.kd st off cells.length len et) with
    |false=>rw [hle0] at hd;cases hd
    |true=>
     rw [hle0,cond_true] at hd
     rw [Bool.and_eq_true] at hle0
     obtain ⟨hle,hro⟩:=hle0
     have hle':=Nat.le_of_ble_eq_true hle
     obtain ⟨cs,fz,r1,r2,r3,r4,r5,r6,r7,r8⟩:=hrow
     have hpart:bp g w ((cells.drop off).take (len * C.sz)) (jk (base+off) (len * C.sz) (fun j=>cs.getD j undef)):=by
      refine ⟨by simp [jk];omega,fun i a v ha hv=>?_⟩
      rw [List.getElem?_take,List.getElem?_drop] at ha
      by_cases hil:i<len * C.sz
      ·rw [if_pos hil] at ha
       obtain ⟨u,hu,hrel⟩:=r3 _ a ha
       simp only [jk,List.getElem?_map,List.getElem?_range hil,Option.map_some,Option.some.injEq] at hv
       subst hv
       rw [Array.getD_eq_getD_getElem?,Nat.add_assoc,hu]
       exact hrel
      ·rw [if_neg hil] at ha;cases ha
     obtain ⟨q1,q2⟩:=as1 C (b0:=b0) hok hl hb0 len _ _ xs hpart (by simp;omega) hd
     subst q2
     refine ahy C q1 hcap (fun e=>by have:=hb0 e;omega) (fun j v hv=>?_) ?_
     have hj:j<xs.length * C.sz:=by
      have:=(List.getElem?_eq_some_iff.1 hv).1;simpa [jk] using this
     simp only [jk,List.getElem?_map,List.getElem?_range hj,Option.map_some,Option.some.injEq] at hv
     obtain ⟨u,hu,_⟩:=r3 (off+j) (cells[off+j]'(by omega)) (by simp)
     have hrows:=hl.rows o cells k st et hx b base hi (off+j) (.inr (by omega))
     rw [← Nat.add_assoc] at hrows hu
     refine ⟨hrows,?_⟩
     rw [iy r1,hu,← hv,Array.getD_eq_getD_getElem?,hu]
     rfl
     intro e
     subst e
     obtain ⟨s1,s2,s3,s4,s5⟩:=aqx hro
     subst s1 s2
     obtain ⟨p1,p2,p3⟩:=r8 rfl
     subst p1
     have hszb:sz=C.sz:=Nat.eq_of_beq_eq_true hb
     obtain ⟨cs1,e1,fr1,t1,t2⟩:=hroom
     rw [r1] at t1;cases t1
     have hf:=r6 (by decide)
     subst hf
     refine ⟨fun j=>by have:=hl.rows o cells k 0 et hx b 0 hi j (.inl rfl);rw [Nat.zero_add] at this;exact this,⟨cs,et,r1,by rw [← hszb];exact t2,s4,by simp,fun e1 j x hj hxj=>?_⟩,fun e1 e2=>?_,hm⟩
     ·have hn : 0<xs.length:=by
       rcases Nat.eq_zero_or_pos xs.length with h0|h0
       ·have:=p2 (by rw [← s3,h0,Nat.zero_mul])
        rw [this,hszb,e1] at t2;omega
       ·exact h0
      have hk:∀ (j:Nat) v,j<xs.length→cs[j]? = some v→ld v=C.kd:=fun j v hj hv=>by
       have hv':(jk (0+0) (xs.length * C.sz) (fun j=>cs.getD j undef))[j]? = some v:=by
        rw [jk,List.getElem?_map,List.getElem?_range (by rw [e1];omega)]
        simp [Array.getD_eq_getD_getElem?,hv]
       have hjl:j<(xs.flatMap (C.cells true)).length:=by rw [← q1.1];exact (List.getElem?_eq_some_iff.1 hv').1
       have hc:=List.getElem?_eq_getElem hjl
       obtain ⟨x,_,hxc⟩:=List.mem_flatMap.1 (List.getElem_mem hjl)
       exact C.G7 e1 hxc (q1.2 j _ v hc hv')
      have h0:cs[0]? = some (cs.getD 0 undef):=by
       have : 0<cs.size:=by rw [hszb,e1] at t2;omega
       rw [Array.getD_eq_getD_getElem?,Array.getElem?_eq_getElem this];rfl
      have h1:(jk (0+0) (xs.length * C.sz) (fun j=>cs.getD j undef)).getD 0 undef=cs.getD 0 undef:=by
       rw [List.getD_eq_getElem?_getD,jk,List.getElem?_map,List.getElem?_range (by rw [e1];omega)];rfl
      simp only [h1]
      rw [hk 0 _ hn h0]
      simp only [Nat.zero_add] at hxj
      by_cases hjn:j<xs.length
      ·exact .inr ⟨hk j x hjn hxj,fun hle=>by omega⟩
      ·rw [← s5 e1]
       exact (p3 j x (by rw [← s3,e1];omega) hxj).imp id (fun q=>⟨q.1,fun _=>q.2⟩)
     ·have:=p2 (by rw [← s3,e2,Nat.zero_mul])
      rw [this,hszb,e1] at t2;omega
 |sq o off sz a=>
  simp only [ij] at hd
  cases hb:Nat.beq sz C.sz with
  |false=>rw [hb] at hd;cases hd
  |true=>
   rw [hb,cond_true,Option.bind_eq_some_iff] at hd
   obtain ⟨x,hx,hd⟩:=hd
   have hxs:xs=[]:=by
    cases x with
    |row cells k st et=>
     simp only [kq] at hd
     cases hle:(Nat.ble (off+0 * C.sz) cells.length && vy fr C.sz C.kd _ off cells.length 0 _) with
     |false=>rw [hle] at hd;cases hd
     |true=>rw [hle] at hd;simp [vi] at hd;exact hd
    |_=>cases hd
   subst hxs
   exact .qz _ _ a
 |tf o off sz=>
  simp only [ij] at hd
  cases hb:Nat.beq sz C.sz with
  |false=>rw [hb] at hd;cases hd
  |true=>
   rw [hb,cond_true,Option.bind_eq_some_iff] at hd
   obtain ⟨x,hx,hd⟩:=hd
   have hxs:xs=[]:=by
    cases x with
    |row cells k st et=>
     simp only [kq] at hd
     cases hle:(Nat.ble (off+0 * C.sz) cells.length && vy fr C.sz C.kd _ off cells.length 0 _) with
     |false=>rw [hle] at hd;cases hd
     |true=>rw [hle] at hd;simp [vi] at hd;exact hd
    |_=>cases hd
   subst hxs
   exact .j4 _ _
 |_=>cases hd
end Go.Vm
