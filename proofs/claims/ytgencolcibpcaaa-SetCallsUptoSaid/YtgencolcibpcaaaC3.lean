/- A piece of the proof. Proved: where the arguments are together of bulk at most 1048576, the law SetCalls returns true (what a set is made of), and what it was given reads afterwards as it did before. No other conditions. -/
import Derived.WalkKit
import Derived.CallsIn
import Derived.RangeFuncIn
import Derived.RangeFuncLeaves
import Derived.Orders
import Derived.OrdersIn
import Derived.Scope
import Derived.RangeFuncOwn
import Derived.Stop.SameAnswer
import Derived.Laws.Externs
import Derived.Lib.Bytealg
import Derived.ProofKit
import Derived.OpenShut
import Derived.ReadAgain
import Derived.Deep.Slices
import Derived.ChangeSame
import Derived.Test.YtgencolcibpcaaaProg
import Derived.KernelRfl
import Derived.Test.YtgencolcibpcaaaRows
import Derived.Maps.RangeRun
import Derived.JoinedCond
import Derived.Test.YtgencolcibpcaaaC2
set_option linter.unusedSimpArgs false
set_option linter.unusedVariables false
set_option linter.unusedSectionVars false
section
namespace Go.Vm
variable [TK]
noncomputable section
open Go.ChangeShapes Go.WideShapes Go.ChangeAt
mutual
def j5 {H:Type}:DataW H→Nat
 |.lit (.string bytes)=>bytes.length+1
 |.lit _=>1
 |.nil=>1
 |.ptr d=>j5 d+1
 |.slice elems spare=>kz elems+kz spare+1
 |.agg parts=>kz parts+1
 |.iface _ d=>j5 d+1
 |.map entries=>Ll entries+1
 |.held _=>1
def kz {H:Type}:List (DataW H)→Nat
 | []=>0
 |d::r=>j5 d+kz r
def Ll {H:Type}:List (Lit × DataW H)→Nat
 | []=>0
 |x::r=>aas x+Ll r
def aas {H:Type}:Lit × DataW H→Nat
 |(.string bytes,d)=>bytes.length+j5 d+1
 |(_,d)=>j5 d+1
end
def Tv (W:World):Nat→Nat→Prop:=fun b _=>b<W.heap.size
def Rd (P:Program) (t:TypeId) {α:Type} (C:cq α) (μ : α→Nat):Prop:=
 ∀ {H:Type} (enc:TypeId × Value→H) (W:World) (b0 fuel:Nat) (cs:List Value) (x:DataW H × List MemPlace),DataW.trod enc P W 0 (fun _=>true) true fuel t cs=some x →
  ∃ y,be (gK b0 (Tv W)) W (C.cells false y) cs ∧ μ y≤j5 x.1
theorem aof {P:Program} {t:TypeId} (ht:P.underlying t=some (.int .u8)):Rd P t aw (fun _=>1):=by
 intro H enc W b0 fuel cs x h
 obtain ⟨n,rfl,rfl,hw⟩:=DataW.trod_int ht h
 have hx : 0≤n∧n≤255:=by simpa [Lit.wf,IntKind.min,IntKind.max,IntKind.signed,IntKind.bits] using hw
 refine ⟨UInt8.ofNat n.toNat,?_,by simp [j5]⟩
 have:n=((UInt8.ofNat n.toNat).toNat:Int):=by rw [UInt8.toNat_ofNat'];omega
 exact be.one (by (conv=>rhs;rw [this]);exact .sc _)
theorem ad2 {P:Program} {t:TypeId} (ht:P.underlying t=some (.int .u16)):Rd P t b9 (fun _=>1):=by
 intro H enc W b0 fuel cs x h
 obtain ⟨n,rfl,rfl,hw⟩:=DataW.trod_int ht h
 have hx : 0≤n∧n≤65535:=by simpa [Lit.wf,IntKind.min,IntKind.max,IntKind.signed,IntKind.bits] using hw
 refine ⟨UInt16.ofNat n.toNat,?_,by simp [j5]⟩
 have:n=((UInt16.ofNat n.toNat).toNat:Int):=by rw [UInt16.toNat_ofNat'];omega
 exact be.one (by (conv=>rhs;rw [this]);exact .sc _)
theorem ad0 {P:Program} {t:TypeId} (ht:P.underlying t=some (.int .u32)):Rd P t bh (fun _=>1):=by
 intro H enc W b0 fuel cs x h
 obtain ⟨n,rfl,rfl,hw⟩:=DataW.trod_int ht h
 have hx : 0≤n∧n≤4294967295:=Go.bounds_u32 hw
 refine ⟨UInt32.ofNat n.toNat,?_,by simp [j5]⟩
 have:n=((UInt32.ofNat n.toNat).toNat:Int):=by rw [UInt32.toNat_ofNat'];omega
 exact be.one (by (conv=>rhs;rw [this]);exact .sc _)
theorem al6 {P:Program} {t:TypeId} (ht:P.underlying t=some .string):Rd P t ai (fun s=>s.size+1):=by
 intro H enc W b0 fuel cs x h
 obtain ⟨s,rfl,rfl,_⟩:=DataW.trod_string ht h
 refine ⟨s,be.one (.sc _),?_⟩
 show s.size+1≤j5 (DataW.lit (Lit.string s.data.toList))
 rw [j5,Array.length_toList]
 exact Nat.le_refl _
theorem akn (ao k s v j:Nat) (h3:v=k * s) (hge:v≤j):ao+k * s+(j - v)=ao+j:=by rw [← h3];omega
def ph {α:Type} (μ : α→Nat):List α→Nat
 | []=>0
 |x::r=>μ x+ph μ r
theorem I5 {α:Type} (μ : α→Nat):∀ a b:List α,ph μ (a++b)=ph μ a+ph μ b
 | [],b=>by simp [ph]
 |x::a,b=>by simp [ph,I5 μ a b];omega
theorem G2 {H:Type}:∀ a b:List (DataW H),kz (a++b)=kz a+kz b
 | [],b=>by simp [kz]
 |x::a,b=>by simp [kz,G2 a b];omega
theorem ak5 {P:Program} {t e:TypeId} {α:Type} {C:cq α} {μ : α→Nat} (ht:P.underlying t=some (.slice e)) (hsz:P.cellsOf e=C.sz) (hpos : 0<C.sz) (he:Rd P e C μ):Rd P t (bw C) (fun l=>ph μ l+1):=by
 intro H enc W b0 fuel cs x h
 rcases Go.Deep.open_slice ht h with ⟨rfl,rfl⟩|⟨a,len,cap,m,n,D,Pl,rfl,_,hl,hm,hmm,rfl,hx⟩
 ·exact ⟨[],be.one (.jh _ _),by simp [ph,j5]⟩
 ·simp only [if_true] at hmm
  subst hmm
  have spot : 0<m→a.spot=none∧a.block<W.heap.size:=by
   intro h0
   obtain ⟨cs',h1,_⟩:=hx 0 h0
   rw [hsz] at h1
   simp only [World.cells?,Nat.zero_le,if_true] at h1
   have h2:=mapM_some_get h1 0 0 (by simp [hpos])
   have hlen:=mapM_some_length h1
   have h3:∃ v,cs'[0]? = some v:=⟨cs'[0]'(by rw [hlen];simpa using hpos),by simp⟩
   obtain ⟨v,hv⟩:=h3
   rw [hv] at h2
   simp only [Nat.zero_mul,Addr.add,if_true] at h2
   simp only [World.cell?] at h2
   split at h2
   ·rename_i c _ _ hb
    cases hs:a.spot with
    |none=>exact ⟨rfl,a9 hb⟩
    |some s=>simp [hs] at h2
   ·cases h2
  have build:∀ k,k≤len→∃ (xs:List α) (vs:List Value),xs.length=k∧be (gK b0 (Tv W)) W (xs.flatMap (C.cells false)) vs∧vs.length=k * C.sz∧(∀ j v,vs[j]? = some v→W.cell? ⟨a.block,a.off+j,none⟩=some v) ∧
   ph μ xs≤kz ((List.range k).map D):=by
   intro k
   induction k with
   |zero=>intro _;exact ⟨[],[],rfl,be.nil _ _,by simp,(fun j v hj=>by simp at hj),by simp [ph,kz]⟩
   |succ k ih=>
    intro hk
    obtain ⟨xs,vs,h1,h2,h3,h4,h5⟩:=ih (by omega)
    obtain ⟨cs',h6,h7⟩:=hx k (by omega)
    obtain ⟨y,h8,h9⟩:=he enc W b0 n cs' _ h7
    rw [hsz] at h6
    simp only [World.cells?,Nat.zero_le,if_true] at h6
    have hlen:=mapM_some_length h6
    simp only [List.length_range] at hlen
    refine ⟨xs++[y],vs++cs',by simp [h1],?_,by simp [h3,hlen,Nat.succ_mul],fun j v hj=>?_,?_⟩
    ·rw [List.flatMap_append];exact h2.append (by simpa using h8)
    ·by_cases hj1:j<vs.length
     ·rw [List.getElem?_append_left hj1] at hj;exact h4 j v hj
     ·rw [List.getElem?_append_right (by omega)] at hj
      have hj2:=(List.getElem?_eq_some_iff.1 hj).1
      have h10:=mapM_some_get h6 (j - vs.length) (j - vs.length) (List.getElem?_range (by rw [← hlen];exact hj2))
      rw [hj] at h10
      have hs:=(spot (by omega)).1
      have e:(a.add (k * C.sz)).add (j - vs.length)=⟨a.block,a.off+j,none⟩:=by
       obtain ⟨ab,ao,azs⟩:=a
       simp only at hs
       subst hs
       rw [Addr.lf,Addr.lf]
       have hge:vs.length≤j:=Nat.le_of_not_lt hj1
       rw [akn ao k C.sz vs.length j h3 hge]
      rw [e] at h10
      exact h10
    ·rw [I5,List.range_succ,List.map_append,G2]
     simp only [ph,List.map_cons,List.map_nil,kz]
     have : μ y≤j5 (D k):=h9
     omega
  obtain ⟨xs,vs,h1,h2,h3,h4,h5⟩:=build len (Nat.le_refl _)
  refine ⟨xs,be.one ?_,by
   simp only [j5]
   have:ph μ xs≤kz ((List.range len).map D):=h5
   omega⟩
  by_cases h0 : 0<m
  ·obtain ⟨hs,hb⟩:=spot h0
   obtain ⟨ab,ao,azs⟩:=a
   simp only at hs hb h4
   subst hs
   rw [← h1]
   refine ace C h2 (by omega) (fun e=>by cases e) (fun j v hj=>⟨hb,h4 j v hj⟩) (fun e=>by cases e)
  ·have hl0:len=0:=by omega
   have hm0:m=0:=by omega
   subst hl0 hm0
   have:xs=[]:=List.eq_nil_of_length_eq_zero h1
   subst this
   exact .o0 _ _ _
def Pa (P:Program) (fs:List Field) (off:Nat) {α:Type} (C:cq α) (μ : α→Nat):Prop:=
 ∀ {H:Type} (enc:TypeId × Value→H) (W:World) (b0 n:Nat) (cs:List Value) (ys:List (DataW H × List MemPlace)),ys.length=fs.length →
  (∀ (i:Nat) f,fs[i]? = some f→DataW.trod enc P W 0 (fun _=>true) true n f.type ((cs.drop f.offset).take (P.cellsOf f.type))=ys[i]?) →
  ∃ y,be (gK b0 (Tv W)) W (C.cells false y) ((cs.drop off).take C.sz) ∧ μ y≤kz (ys.map (·.1))
theorem akk {P:Program} {f:Field} {off:Nat} {α:Type} {C:cq α} {μ : α→Nat} (ho:f.offset=off) (hs:P.cellsOf f.type=C.sz) (h:Rd P f.type C μ):Pa P [f] off C μ:=by
 intro H enc W b0 n cs ys hl hf
 match ys,hl with
 | [y0],_=>
  have:=hf 0 f rfl
  obtain ⟨y,h1,h2⟩:=h enc W b0 n _ y0 this
  rw [ho,hs] at h1
  exact ⟨y,h1,by simp [kz];exact h2⟩
theorem ag9 {P:Program} {f:Field} {fs:List Field} {off:Nat} {α β:Type} {A:cq α} {B:cq β} {μ : α→Nat} {ν : β→Nat} (ho:f.offset=off) (hs:P.cellsOf f.type=A.sz) (h:Rd P f.type A μ) (hr:Pa P fs (off+A.sz) B ν) :
 Pa P (f::fs) off (js A B) (fun p=>μ p.1 + ν p.2):=by
 intro H enc W b0 n cs ys hl hf
 match ys,hl with
 |y0::ys,hl=>
  have h0:=hf 0 f rfl
  obtain ⟨y,h1,h2⟩:=h enc W b0 n _ y0 h0
  obtain ⟨z,h3,h4⟩:=hr enc W b0 n cs ys (by simpa using hl) (fun i g hg=>by have:=hf (i+1) g (by simpa using hg);simpa using this)
  rw [ho,hs] at h1
  refine ⟨(y,z),?_,by simp [kz];omega⟩
  have:=h1.append h3
  rwa [show (cs.drop off).take A.sz++(cs.drop (off+A.sz)).take B.sz=(cs.drop off).take (A.sz+B.sz) from by
   rw [List.take_add,List.drop_drop]] at this
theorem afz {P:Program} {t:TypeId} {fs:Array Field} {α:Type} {C:cq α} {μ : α→Nat} (ht:P.underlying t=some (.struct fs)) (hc:P.cellsOf t=C.sz) (h:Pa P fs.toList 0 C μ):Rd P t C (fun x=>μ x+1):=by
 intro H enc W b0 fuel cs x hx
 obtain ⟨xs,n,_,rfl,hl,hlen,hf⟩:=DataW.trod_struct ht hx
 obtain ⟨y,h1,h2⟩:=h enc W b0 n cs xs (by simpa using hlen) (fun i f hi=>hf i f (by simpa using hi))
 refine ⟨y,?_,by simp [j5];exact h2⟩
 rwa [List.drop_zero,List.take_of_length_le (by omega)] at h1
theorem al4 {P:Program} {t:TypeId} {α β:Type} {C:cq α} {μ : α→Nat} {f : β → α} {i : α → β} {h1:∀ y,i (f y)=y} {h2:∀ x,f (i x)=x} (h:Rd P t C μ):Rd P t (z5 C f i h1 h2) (fun y=>μ (f y)):=by
 intro H enc W b0 fuel cs x hx
 obtain ⟨y,h3,h4⟩:=h enc W b0 fuel cs x hx
 exact ⟨i y,by show be _ _ (C.cells false (f (i y))) cs;rw [h2];exact h3,by show μ (f (i y))≤_;rw [h2];exact h4⟩
def RdA (P:Program) (ts:List TypeId) {α:Type} (A:AC α) (μ : α→Nat):Prop:=
 ∀ {H:Type} (enc:TypeId × Value→H) (W:World) (b0 b1:Nat) (vs:List Value) (ds:List (DataW H)) (ps:List MemPlace),(∀ (j:Nat) t v,ts[j]? = some t→vs[j]? = some v→Value.okWide P W .any b1 t v) →
  DataW.TrodAll enc P W 0 (fun _=>true) true ts vs ds ps→∃ y,be (gK b0 (Tv W)) W (A.E y) vs ∧ μ y≤kz ds
theorem alk (P:Program):RdA P [] a0 (fun _=>0):=by
 intro H enc W b0 b1 vs ds ps _ h
 obtain ⟨rfl,rfl,rfl⟩:=trodAll_nil h
 exact ⟨(),be.nil _ _,Nat.zero_le _⟩
theorem ab1 {P:Program} {W:World} {b:Nat} {t:TypeId} {v:Value} (h:mj P t=some true) (ho:Value.okWide P W .any b t v):∃ cs,v = .agg cs:=by
 unfold mj at h
 unfold Value.okWide at ho
 cases hu:P.underlying t with
 |none=>rw [hu] at h;cases h
 |some d=>
  rw [hu] at h ho
  cases d<;>simp_all<;>exact ⟨_,ho.choose_spec.1⟩
theorem Vg {P:Program} {t:TypeId} {ts:List TypeId} {α β:Type} {C:cq α} {R:AC β} {μ : α→Nat} {ν : β→Nat} (ha:mj P t=some C.agg) (h:Rd P t C μ) (hr:RdA P ts R ν):RdA P (t::ts) (aC C R) (fun p=>μ p.1 + ν p.2):=by
 intro H enc W b0 b1 vs ds ps hok hall
 obtain ⟨v,vs1,d,ds1,p,q,rfl,rfl,rfl,h0,h1⟩:=trodAll_cons hall
 obtain ⟨fuel,hf⟩:=h0
 obtain ⟨y,h2,h3⟩:=h enc W b0 fuel _ _ hf
 obtain ⟨z,h4,h5⟩:=hr enc W b0 b1 vs1 ds1 q (fun j t v ht hv=>hok (j+1) t v (by simpa using ht) (by simpa using hv)) h1
 have h3' : μ y≤j5 d:=h3
 refine ⟨(y,z),be.cons ?_ h4,by simp only [kz];omega⟩
 have hv:=hok 0 t v rfl rfl
 show Rel _ _ (C.val false y) v
 unfold cq.val
 cases hg:C.agg with
 |true=>
  obtain ⟨cs,rfl⟩:=ab1 (by rw [ha,hg]) hv
  exact .agg _ cs (by simpa [Value.cells] using h2.1) (fun i a v ha hv=>h2.2 i a v ha (by simpa [Value.cells] using hv))
 |false=>
  obtain ⟨c,h6,h7,_⟩:=C.one hg false y
  rw [cond_false,h6]
  rw [h6] at h2
  have hcs:v.cells.toList=[v]:=by
   have hl:=h2.1
   simp only [List.length_singleton] at hl
   cases v with
   |agg cs=>
    exfalso
    unfold mj at ha
    unfold Value.okWide at hv
    cases hu:P.underlying t with
    |none=>rw [hu] at ha;cases ha
    |some d=>
     rw [hu] at ha hv
     have hcell:Cell.okWide P W .any b1 t (.agg cs):=by
      cases d<;>simp_all
     rw [hg] at ha
     unfold Cell.okWide Cell.ok at hcell
     rw [hu] at hcell
     cases d<;>simp_all
   |_=>rfl
  rw [hcs] at h2
  exact h2.head
theorem Xb {W W':World} (q:wa W W') {p:MemPlace} (h:p.block<W.heap.size):W.sameAt W' p:=by
 cases p with
 |cell b off=>exact ly (q.heap b h)
 |map b=>exact q.heap b h
theorem again {H:Type} {enc:TypeId × Value→H} {P:Program} {W W':World} {sp:Nat→Bool} (K:Kids P (· < P.types.size)) (hz:∀ t e,t<P.types.size→P.underlying t=some (.slice e)→0<P.cellsOf e) (q:wa W W') :
 ∀ {ts:List TypeId} {vs:List Value} {ds:List (DataW H)} {ps:List MemPlace},(∀ t ∈ ts,t<P.types.size)→DataW.TrodAll enc P W 0 (fun _=>true) true ts vs ds ps→(∀ p ∈ ps,sp p.block=true)→(∀ p ∈ ps,p.block<W.heap.size) →
  DataW.TrodAll enc P W' 0 sp true ts vs ds ps
 | [],[],[],_,_,h,_,_=>h
 |t::ts,v::vs,d::ds,ps,hT,⟨p,p',h1,h2,e⟩,hs,hl=>by
  obtain ⟨n,hn⟩:=h1
  subst e
  have h3:=DataW.trod_respare (spare':=sp) K hz n t _ _ (hT t (by simp)) hn (fun x hx=>hs x (by simp only [List.mem_append];exact .inl hx))
  have h4:=DataW.trod_carry (w':=W') n t _ _ h3 (fun x hx=>Xb q (hl x (by simp only [List.mem_append];exact .inl hx)))
  exact ⟨p,p',⟨n,h4⟩,again K hz q (fun t ht=>hT t (by simp [ht])) h2 (fun x hx=>hs x (by simp [hx])) (fun x hx=>hl x (by simp [hx])),rfl⟩
theorem acb {W W':World} (q:wa W W') (may:MemPlace→Prop):W.keptBut W' may:=by
 refine ⟨q.os,q.output,fun i hi=>?_⟩
 rw [q.heap i hi]
 split
 ·rename_i c t fr c' t' fr' h1 h2
  rw [h1] at h2
  cases h2
  exact ⟨rfl,rfl,rfl,fun _ _=>rfl⟩
 ·rename_i es cl es' cl' h1 h2
  rw [h1] at h2
  cases h2
  exact .inr ⟨rfl,rfl⟩
 ·rfl
def aa7 (P:Program):Bool:=(List.range P.types.size).all fun t=>match P.underlying t with|some (.slice e)=>Nat.blt 0 (P.cellsOf e)|_=>true
theorem Sn {P:Program} (h:aa7 P=true) (t e:TypeId) (ht:t<P.types.size) (hu:P.underlying t=some (.slice e)) : 0<P.cellsOf e:=by
 have:=List.all_eq_true.1 h t (List.mem_range.2 ht)
 simp only [hu] at this
 exact Nat.le_of_ble_eq_true this
def alb (P:Program) (l:List TypeId):Bool:=l.all fun t=>Nat.blt t P.types.size
theorem abz {P:Program} {l:List TypeId} (h:alb P l=true):∀ t ∈ l,t<P.types.size:=fun t ht=>Nat.le_of_ble_eq_true (List.all_eq_true.1 h t ht)
theorem ag2 {P:Program} [KP P] (hlaid:laidOutB P=true) (hmaps:mapsRowed P=true) (hz:∀ t e,t<P.types.size→P.underlying t=some (.slice e)→0<P.cellsOf e) {f:Nat} {fn:Func} {s:ChangeSpec} {tb:TypeId}
 (he:m7 P f=true) (hvars:s.vars=[]) (hres:fn.resultTypes = #[tb]) (htb:P.underlying tb=some .bool) (hpar:∀ t ∈ fn.params.toList,t<P.types.size)
 (hfn:∀ (H:Type) (ds:List (DataW H)),ds.length=fn.params.toList.length→s.fn H ds = { results:=[.lit (.bool true)],args:=ds }) {α:Type} {A:AC α} {μ : α→Nat} (hA:RdA P fn.params.toList A μ) {N:Option Nat}
 (hcall:∀ x,(∀ n,N=some n → μ x≤n)→bp P f (A.E x) (.sc (.bool true)))
 {H:Type} (enc:TypeId × Value→H) (W:World) (base:Nat) (args:Array Value) (ds gs:List (DataW H)) (before:List MemPlace) (hval:∀ (j:Nat) t v,fn.params[j]? = some t→args[j]? = some v→Value.okWide P W .any base t v)
 (hW:DataW.Whole enc P fn.params.toList s.vars false W args.toList ds gs before) (hN:∀ n,N=some n→kz (ds++gs)≤n) :
 Calls P f args W fun e W'=>∃ v,e = .returned v∧s.post enc P fn false true false false W args v W':=by
 have hW':=hW
 obtain ⟨p,q,hA0,hV,rfl,hfz,hnd⟩:=hW
 rw [hvars] at hV
 obtain ⟨rfl,rfl⟩:=trodVars_none hV
 obtain ⟨x,hx,hμ⟩:=hA enc W W.heap.size base args.toList ds p (fun j t v ht hv=>hval j t v (by simpa using ht) (by simpa using hv)) hA0
 have hp:=hcall x (fun n hn=>Nat.le_trans hμ (by have:=hN n hn;simpa using this)) (Tv W) W args.toList (fun _ _ h=>h) hx
 have hlen:ds.length=fn.params.toList.length:=by
  have:∀ {ts:List TypeId} {vs:List Value} {ds:List (DataW H)} {ps:List MemPlace},DataW.TrodAll enc P W 0 (fun _=>true) true ts vs ds ps→ds.length=ts.length:=by
   intro ts
   induction ts with
   |nil=>intro vs ds ps h;obtain ⟨_,rfl,_⟩:=trodAll_nil h;rfl
   |cons t ts ih=>intro vs ds ps h;obtain ⟨v,vs1,d,ds1,p,q,rfl,rfl,rfl,h0,h1⟩:=trodAll_cons h;simp [ih h1]
  exact this hA0
 have hlt:∀ y ∈ p++[],y.block<W.heap.size:=fun y hy=>hW'.lt y hy
 have hspec:=hfn H ds hlen
 rcases hp with ⟨v,hv,_⟩|⟨_,hc⟩
 ·rw [s6 he] at hv;cases hv
 ·refine hc.mono ?_
  rintro e W' ⟨v,rfl,hq,hr⟩
  obtain rfl:=hr.exact rfl
  refine ⟨_,rfl,ds,[],p++[],[],p,[],hW',?_,?_,?_,acb hq _,fun e=>by cases e⟩
  ·rw [List.append_nil,hspec,hres]
   exact trodAll_cons_mk (Go.RowKit.shut_bool htb _) trodAll_mk0
  ·rw [List.append_nil,hspec]
   exact again (kids_rows hlaid hmaps) hz hq hpar hA0 (fun y hy=>by have:=hlt y (by simp [hy]);simpa using this) (fun y hy=>hlt y (by simp [hy]))
  ·rw [List.append_nil,hspec,hvars]
   rfl
end
end Go.Vm
end
namespace Go.Vm
noncomputable instance tkI:TK:=⟨c8 Go.Proofs.Try.prog,ag7 Go.Proofs.Try.prog⟩
instance kpI:KP Go.Proofs.Try.prog:=⟨rfl,rfl⟩
end Go.Vm
section
namespace Go.Vm
open Go.Proofs
theorem ady:(Try.prog.underlying 3=some (.int .i64)) ∧
 (Try.prog.underlying 4=some (.bool)) ∧
 (Try.prog.underlying 5=some (.int .u8)) ∧
 (Try.prog.underlying 9=some (.string)) ∧
 (Try.prog.underlying 22=some (.slice 66)) ∧
 (Try.prog.underlying 34=some (.slice 9)) ∧
 (Try.prog.underlying 35=some (.slice 9)) ∧
 (Try.prog.underlying 39=some (.int .u32)) ∧
 (Try.prog.underlying 40=some (.slice 47)) ∧
 (Try.prog.underlying 43=some (.slice 35)):=
 ⟨by kernel_rfl,by kernel_rfl,by kernel_rfl,by kernel_rfl,by kernel_rfl,by kernel_rfl,by kernel_rfl,by kernel_rfl,by kernel_rfl,by kernel_rfl⟩
theorem ae5:(Try.prog.underlying 44=some (.slice 39)) ∧
 (Try.prog.underlying 45=some (.slice 5)) ∧
 (Try.prog.underlying 141=some (.int .u64)) ∧
 (Try.prog.underlying 142=some (.slice 45)):=
 ⟨by kernel_rfl,by kernel_rfl,by kernel_rfl,by kernel_rfl⟩
theorem af1:(mj Try.prog 3=some false) ∧
 (mj Try.prog 5=some false) ∧
 (mj Try.prog 9=some false) ∧
 (mj Try.prog 34=some false) ∧
 (mj Try.prog 35=some false):=
 ⟨by kernel_rfl,by kernel_rfl,by kernel_rfl,by kernel_rfl,by kernel_rfl⟩
theorem agk:(mj Try.prog 37=some false) ∧
 (mj Try.prog 38=some false) ∧
 (mj Try.prog 39=some false) ∧
 (mj Try.prog 40=some false) ∧
 (mj Try.prog 42=some true) ∧
 (mj Try.prog 43=some false) ∧
 (mj Try.prog 44=some false) ∧
 (mj Try.prog 45=some false) ∧
 (mj Try.prog 47=some true) ∧
 (mj Try.prog 66=some true) ∧
 (mj Try.prog 95=some true):=
 ⟨by kernel_rfl,by kernel_rfl,by kernel_rfl,by kernel_rfl,by kernel_rfl,by kernel_rfl,by kernel_rfl,by kernel_rfl,by kernel_rfl,by kernel_rfl,by kernel_rfl⟩
theorem adn:(mj Try.prog 114=some true):=by kernel_rfl
theorem aal:(c8 Try.prog 3=some 1) ∧
 (c8 Try.prog 5=some 1) ∧
 (c8 Try.prog 9=some 1) ∧
 (c8 Try.prog 34=some 1) ∧
 (c8 Try.prog 35=some 1):=
 ⟨by kernel_rfl,by kernel_rfl,by kernel_rfl,by kernel_rfl,by kernel_rfl⟩
theorem Zi:(c8 Try.prog 37=some 1) ∧
 (c8 Try.prog 38=some 1) ∧
 (c8 Try.prog 39=some 1) ∧
 (c8 Try.prog 40=some 1) ∧
 (c8 Try.prog 42=some 5) ∧
 (c8 Try.prog 43=some 1) ∧
 (c8 Try.prog 44=some 1) ∧
 (c8 Try.prog 45=some 1) ∧
 (c8 Try.prog 47=some 4) ∧
 (c8 Try.prog 66=some 8) ∧
 (c8 Try.prog 95=some 5):=
 ⟨by kernel_rfl,by kernel_rfl,by kernel_rfl,by kernel_rfl,by kernel_rfl,by kernel_rfl,by kernel_rfl,by kernel_rfl,by kernel_rfl,by kernel_rfl,by kernel_rfl⟩
theorem Zu:(c8 Try.prog 114=some 5):=by kernel_rfl
theorem aac:(ff Try.prog 5=some (.int .u8 0)):=by kernel_rfl
theorem aak:(ff Try.prog 42=some (.agg #[.slice none 0 0,.int .u16 0,.int .u16 0,.int .u32 0,.slice none 0 0])) ∧
 (ff Try.prog 47=some (.agg #[.slice none 0 0,.slice none 0 0,.slice none 0 0,.slice none 0 0])) ∧
 (ff Try.prog 95=some (.agg #[.int .i64 0,.int .i64 0,.int .i64 0,.int .i64 0,.int .i64 0])):=
 ⟨by kernel_rfl,by kernel_rfl,by kernel_rfl⟩
theorem Z7:(ff Try.prog 114=some (.agg #[.int .i64 0,.int .i64 0,.int .i64 0,.int .i64 0,.int .i64 0])):=by kernel_rfl
theorem aez:(u0 Try.prog 22=some (66,8,[.sc (.slice none 0 0),.sc (.int .u16 0),.sc (.int .u16 0),.sc (.int .u32 0),.sc (.slice none 0 0),.sc (.slice none 0 0),.sc (.slice none 0 0),.sc (.slice none 0 0)])) ∧
 (u0 Try.prog 24=some (42,5,[.sc (.slice none 0 0),.sc (.int .u16 0),.sc (.int .u16 0),.sc (.int .u32 0),.sc (.slice none 0 0)])) ∧
 (u0 Try.prog 34=some (9,1,[.sc (.string .empty)])) ∧
 (u0 Try.prog 35=some (9,1,[.sc (.string .empty)])) ∧
 (u0 Try.prog 40=some (47,4,[.sc (.slice none 0 0),.sc (.slice none 0 0),.sc (.slice none 0 0),.sc (.slice none 0 0)])) ∧
 (u0 Try.prog 43=some (35,1,[.sc (.slice none 0 0)])) ∧
 (u0 Try.prog 44=some (39,1,[.sc (.int .u32 0)])) ∧
 (u0 Try.prog 45=some (5,1,[.sc (.int .u8 0)])) ∧
 (u0 Try.prog 142=some (45,1,[.sc (.slice none 0 0)])):=
 ⟨by kernel_rfl,by kernel_rfl,by kernel_rfl,by kernel_rfl,by kernel_rfl,by kernel_rfl,by kernel_rfl,by kernel_rfl,by kernel_rfl⟩
theorem Tq:(yn Try.prog 42=some ([.sc (.slice none 0 0),.sc (.int .u16 0),.sc (.int .u16 0),.sc (.int .u32 0),.sc (.slice none 0 0)],[(0,1),(1,1),(2,1),(3,1),(4,1)])) ∧
 (yn Try.prog 47=some ([.sc (.slice none 0 0),.sc (.slice none 0 0),.sc (.slice none 0 0),.sc (.slice none 0 0)],[(0,1),(1,1),(2,1),(3,1)])) ∧
 (yn Try.prog 66=some ([.sc (.slice none 0 0),.sc (.int .u16 0),.sc (.int .u16 0),.sc (.int .u32 0),.sc (.slice none 0 0),.sc (.slice none 0 0),.sc (.slice none 0 0),.sc (.slice none 0 0)],[(0,1),(1,1),(2,1),(3,1),(4,4)])) ∧
 (yn Try.prog 95=some ([.sc (.int .i64 0),.sc (.int .i64 0),.sc (.int .i64 0),.sc (.int .i64 0),.sc (.int .i64 0)],[(0,1),(1,1),(2,1),(3,1),(4,1)])) ∧
 (yn Try.prog 114=some ([.sc (.int .i64 0),.sc (.int .i64 0),.sc (.int .i64 0),.sc (.int .i64 0),.sc (.int .i64 0)],[(0,1),(1,1),(2,1),(3,1),(4,1)])):=
 ⟨by kernel_rfl,by kernel_rfl,by kernel_rfl,by kernel_rfl,by kernel_rfl⟩
theorem Wt:(fh Try.prog 42 0=some ⟨"Owner",35,0,false, "", "",0⟩) ∧
 (fh Try.prog 42 1=some ⟨"Type",37,1,false, "", "",24⟩) ∧
 (fh Try.prog 42 2=some ⟨"Class",38,2,false, "", "",26⟩) ∧
 (fh Try.prog 42 3=some ⟨"TTL",39,3,false, "", "",28⟩) ∧
 (fh Try.prog 42 4=some ⟨"Data",40,4,false, "", "",32⟩):=
 ⟨by kernel_rfl,by kernel_rfl,by kernel_rfl,by kernel_rfl,by kernel_rfl⟩
theorem Vw:(fh Try.prog 47 0=some ⟨"Names",43,0,false, "", "",0⟩) ∧
 (fh Try.prog 47 1=some ⟨"Nums",44,1,false, "", "",24⟩) ∧
 (fh Try.prog 47 2=some ⟨"Texts",34,2,false, "", "",48⟩) ∧
 (fh Try.prog 47 3=some ⟨"Raw",45,3,false, "", "",72⟩) ∧
 (fh Try.prog 66 0=some ⟨"Owner",35,0,false, "", "",0⟩) ∧
 (fh Try.prog 66 1=some ⟨"Type",37,1,false, "", "",24⟩) ∧
 (fh Try.prog 66 2=some ⟨"Class",38,2,false, "", "",26⟩) ∧
 (fh Try.prog 66 3=some ⟨"TTL",39,3,false, "", "",28⟩) ∧
 (fh Try.prog 66 4=some ⟨"Data",47,4,false, "", "",32⟩):=
 ⟨by kernel_rfl,by kernel_rfl,by kernel_rfl,by kernel_rfl,by kernel_rfl,by kernel_rfl,by kernel_rfl,by kernel_rfl,by kernel_rfl⟩
theorem Td:(fh Try.prog 95 0=some ⟨"names",3,0,false, "", "nomenclator/rdata",0⟩) ∧
 (fh Try.prog 95 1=some ⟨"nums",3,1,false, "", "nomenclator/rdata",8⟩) ∧
 (fh Try.prog 95 2=some ⟨"size",3,2,false, "", "nomenclator/rdata",16⟩) ∧
 (fh Try.prog 95 3=some ⟨"texts",3,3,false, "", "nomenclator/rdata",24⟩) ∧
 (fh Try.prog 95 4=some ⟨"raw",3,4,false, "", "nomenclator/rdata",32⟩) ∧
 (fh Try.prog 114 0=some ⟨"Names",3,0,false, "", "",0⟩) ∧
 (fh Try.prog 114 1=some ⟨"Nums",3,1,false, "", "",8⟩) ∧
 (fh Try.prog 114 2=some ⟨"Texts",3,2,false, "", "",16⟩) ∧
 (fh Try.prog 114 3=some ⟨"Raw",3,3,false, "", "",24⟩) ∧
 (fh Try.prog 114 4=some ⟨"Wide",3,4,false, "", "",32⟩):=
 ⟨by kernel_rfl,by kernel_rfl,by kernel_rfl,by kernel_rfl,by kernel_rfl,by kernel_rfl,by kernel_rfl,by kernel_rfl,by kernel_rfl,by kernel_rfl⟩
theorem af6:(wk Try.prog 22=some (66,8,128)) ∧
 (wk Try.prog 34=some (9,1,16)) ∧
 (wk Try.prog 35=some (9,1,16)) ∧
 (wk Try.prog 40=some (47,4,96)) ∧
 (wk Try.prog 43=some (35,1,24)) ∧
 (wk Try.prog 44=some (39,1,4)) ∧
 (wk Try.prog 45=some (5,1,1)):=
 ⟨by kernel_rfl,by kernel_rfl,by kernel_rfl,by kernel_rfl,by kernel_rfl,by kernel_rfl,by kernel_rfl⟩
theorem ai6:(Io 1 .str 9=true) ∧
 (∀ kd,Io 4 kd 47=true) ∧
 (Io 1 .no 35=true) ∧
 (Io 1 (.int .u32) 39=true) ∧
 (Io 1 (.int .u8) 5=true):=
 ⟨by kernel_rfl,fun _=>by kernel_rfl,by kernel_rfl,by kernel_rfl,by kernel_rfl⟩
theorem TF:type_of% ady∧type_of% ae5∧type_of% af1∧type_of% agk∧type_of% adn∧type_of% aal∧type_of% Zi∧type_of% Zu∧type_of% aac∧type_of% aak∧type_of% Z7∧type_of% aez∧type_of% Tq∧type_of% Wt∧type_of% Vw∧type_of% Td∧type_of% af6∧type_of% ai6:=
 ⟨ady,ae5,af1,agk,adn,aal,Zi,Zu,aac,aak,Z7,aez,Tq,Wt,Vw,Td,af6,ai6⟩
end Go.Vm
end
section
namespace Go.Proofs.Ytgencolcibpcaaa
open Go.Vm
noncomputable abbrev PP:=Try.prog
theorem mixed:PP.follows .mixedOrders=true:=by kernel_rfl
theorem az {T:du} (hT:ak PP T) {f:Nat} {fn:Func} (hf:PP.funcs[f]? = some fn) (hb:fn.body.isSome=true) (he:m7 PP f=true) (hs:dq fn.ntmps (fn.body.getD .skip)=true)
 {args:List AV} (hl:args.length≤fn.ntmps) {ρ:Type} (R:RC ρ) (fr:Bool) (x : ρ)
 (h:wl PP T 0 (fn.body.getD .skip) (dk PP fn.results.toList (fun r st=>R.get fr st.h r=some x)) (cw 0 args) (bk [])):bp PP f args (R.E fr x):=
 Oj (body:=fn.body.getD .skip) hT mixed hf (by cases hq:fn.body with|none=>rw [hq] at hb;cases hb|some b=>rfl) he hs hl R fr x h
def gh (s:ByteArray):Int:=if s.size<1∨63<s.size then 4 else 0
theorem Sj (s:ByteArray):wl PP [] 0 (Try.f51.body.getD .skip) (dk PP Try.f51.results.toList (fun r st=>(r1 (bz .i64)).get true st.h r=some (gh s))) (cw 0 [ai.val false s]) (bk []):=by
 unfold Try.f51
 simp only [↓wR,RA,simprocAttr,TF]
 rw [fe]
 refine ⟨fun h=>?_,fun h=>?_⟩
 ·have h1:s.size<1:=by simp at h;omega
  simp only [↓wR,RA,simprocAttr,TF,gh,h,h1,true_or]
 ·have h1:¬ s.size<1:=by simp at h;omega
  simp only [↓wR,RA,simprocAttr,TF,h]
  rw [fe]
  refine ⟨fun h=>?_,fun h=>?_⟩
  ·have h2 : 63<s.size:=by simp at h;omega
   simp only [↓wR,RA,simprocAttr,TF,gh,h2,or_true]
  ·have h2:¬ 63<s.size:=by simp at h;omega
   simp only [↓wR,RA,simprocAttr,TF,gh,h1,h2,or_self]
noncomputable def Cf (x:ByteArray × Unit):Option AV:=some ((r1 (bz .i64)).E true (gh x.1))
set_option maxRecDepth 2000000 in
theorem M4 (x:ByteArray × Unit) (r:AV) (h:Cf x=some r):bp PP 51 ((aC ai a0).E x) r:=by
 cases h
 exact az (ak.nil PP) Try.func51 (by kernel_rfl) (by kernel_rfl) (by kernel_rfl) (Nat.le_of_ble_eq_true (by kernel_rfl)) (r1 (bz .i64)) true (gh x.1) (Sj x.1)
noncomputable abbrev ac4:Nat × Bool × (List AV→M AV):=(51,true,de (aC ai a0) Cf)
def bj (n:Name):Nat:=n.foldl (fun k s=>k+(s.size+1)) 1
theorem Sb (l:Name) (c:ByteArray):bj (l++[c])=bj l+(c.size+1):=by simp [bj]
theorem ze (n:Name) (i:Nat) (c:ByteArray) (h:n[i]? = some c):bj (n.take (i+1))=bj (n.take i)+(c.size+1):=by
 obtain ⟨hk,rfl⟩:=List.getElem?_eq_some_iff.1 h
 rw [List.take_succ_eq_append_getElem hk,Sb]
theorem zb (l:Name):∀ k,l.foldl (fun k s=>k+(s.size+1)) k=k+l.foldl (fun k s=>k+(s.size+1)) 0:=by
 induction l with
 |nil=>intro k;simp
 |cons a l ih=>intro k;simp only [List.foldl_cons];rw [ih,ih (0+_)];omega
theorem n5 (a b:Name):bj (a++b)+1=bj a+bj b:=by
 simp only [bj,List.foldl_append]
 rw [zb b,zb b 1];omega
theorem iu (n:Name) (i:Nat):bj (n.take i)≤bj n∧n.length<bj n:=by
 constructor
 ·have:=n5 (n.take i) (n.drop i)
  rw [List.take_append_drop] at this
  have h1 : 1≤bj (n.drop i):=by simp only [bj];rw [zb];omega
  omega
 ·induction n with
  |nil=>simp [bj]
  |cons a l ih=>
   have:=n5 [a] l
   simp only [List.singleton_append] at this
   have h1:bj [a]=a.size+2:=by simp [bj];omega
   simp only [List.length_cons]
   omega
theorem wrap_i64 (x:Int) (h0 : -9223372036854775808≤x) (h1:x<9223372036854775808):IntKind.i64.wrap x=x:=by
 simp [IntKind.wrap,IntKind.bits,IntKind.signed];omega
theorem Yp (n:Name) (hn:bj n<17592186044416):wl PP [] 0 (Try.f52.body.getD .skip) (dk PP Try.f52.results.toList (fun r st=>(r1 (bz .i64)).get true st.h r=some (bj n:Int))) (cw 0 [aq.val false n]) (bk []):=by
 unfold Try.f52
 rw [cx]
 simp only [↓wR,RA,simprocAttr,TF]
 refine dm [3,6,7,8] (fun (x:Nat)=>[.sc (.int .i64 (bj (n.take x))),.vl false 1 (n.map (ai.val false)),.sc (.int .i64 n.length),.sc (.int .i64 x)]) (fun _=>[]) (fun x=>x≤n.length) (fun x=>n.length - x) 0 (Nat.zero_le _) ?_ ?_ ?_
 ·simp only [↓wR,RA,simprocAttr,TF]<;>rfl
 ·simp only [↓wR,RA,simprocAttr,TF]
 ·intro i hi
  have h1:=iu n i
  simp only [↓wR,RA,simprocAttr,TF]
  rw [fe]
  refine ⟨fun h=>?_,fun h=>?_⟩
  ·have h4:i<n.length:=by simp at h;omega
   obtain ⟨c,hc⟩:∃ c,n[i]? = some c:=⟨n[i],by simp [h4]⟩
   have h2:=ze n i c hc
   have h3:=(iu n (i+1)).1
   simp only [↓wR,RA,simprocAttr,TF,hc]
   refine ⟨i+1,by omega,by omega,?_⟩
   rw [h2]
   simp only [List.cons.injEq,and_true,true_and,AV.sc.injEq,Value.int.injEq]
   refine ⟨?_,?_⟩
   ·rw [wrap_i64 ((c.size:Int)+1) (by omega) (by omega),wrap_i64 _ (by omega) (by omega)];omega
   ·rw [wrap_i64 _ (by omega) (by omega)];omega
  ·have h4:i=n.length:=by simp at h;omega
   subst h4
   simp only [↓wR,RA,simprocAttr,TF,List.take_length]
noncomputable def vv (x:Name × Unit):Option AV:=if bj x.1<17592186044416 then some ((r1 (bz .i64)).E true ((bj x.1:Int))) else none
set_option maxRecDepth 2000000 in
theorem O0 (x:Name × Unit) (r:AV) (h:vv x=some r):bp PP 52 ((aC aq a0).E x) r:=by
 by_cases hc:bj x.1<17592186044416
 case neg=>simp only [vv,if_neg hc] at h;cases h
 simp only [vv,if_pos hc] at h
 cases h
 exact az (ak.nil PP) Try.func52 (by kernel_rfl) (by kernel_rfl) (by kernel_rfl) (Nat.le_of_ble_eq_true (by kernel_rfl)) (r1 (bz .i64)) true ((bj x.1:Int)) (Yp x.1 hc)
noncomputable abbrev afp:Nat × Bool × (List AV→M AV):=(52,true,de (aC aq a0) vv)
def nq (n:Name):Bool:=n.any fun s=>decide (gh s≠0)
def db (n:Name):Int:=if nq n then 4 else if 255<bj n then 5 else 0
theorem Fm (n:Name) (i:Nat) (c:ByteArray) (h:n[i]? = some c):nq (n.take (i+1))=(nq (n.take i) || decide (gh c≠0)):=by
 obtain ⟨hk,rfl⟩:=List.getElem?_eq_some_iff.1 h
 rw [List.take_succ_eq_append_getElem hk]
 simp only [nq,List.any_append,List.any_cons,List.any_nil,Bool.or_false]
theorem Fs (n:Name) (i:Nat) (c:ByteArray) (h:n[i]? = some c) (hc:gh c≠0):nq n=true:=by
 simp only [nq,List.any_eq_true]
 exact ⟨c,List.mem_of_getElem? h,by simp [hc]⟩
theorem Tt (s:ByteArray):gh s=0∨gh s=4:=by unfold gh;split<;>simp
theorem V1 (n:Name) (hn:bj n<17592186044416):wl PP [ac4,afp] 0 (Try.f27.body.getD .skip) (dk PP Try.f27.results.toList (fun r st=>(r1 (bz .i64)).get true st.h r=some (db n))) (cw 0 [aq.val false n]) (bk []):=by
 unfold Try.f27
 rw [cx]
 simp only [↓wR,RA,simprocAttr,TF]
 refine dm [0,6,7,8] (fun (x:Nat)=>[.vl false 1 (n.map (ai.val false)),.vl false 1 (n.map (ai.val false)),.sc (.int .i64 n.length),.sc (.int .i64 x)]) (fun _=>[]) (fun x=>x≤n.length∧nq (n.take x)=false) (fun x=>n.length - x) 0 ⟨Nat.zero_le _,by simp [nq]⟩ ?_ ?_ ?_
 ·simp only [↓wR,RA,simprocAttr,TF]<;>rfl
 ·simp only [↓wR,RA,simprocAttr,TF]
 ·rintro i ⟨hi,hb⟩
  have h1:=iu n i
  simp only [↓wR,RA,simprocAttr,TF]
  rw [fe]
  refine ⟨fun h=>?_,fun h=>?_⟩
  ·have h4:i<n.length:=by simp at h;omega
   obtain ⟨c,hc⟩:∃ c,n[i]? = some c:=⟨n[i],by simp [h4]⟩
   simp only [↓wR,RA,simprocAttr,TF,hc,Cf]
   rw [fe]
   refine ⟨fun h=>?_,fun h=>?_⟩
   ·have h5:gh c≠0:=by simpa using h
    have h6:gh c=4:=(Tt c).resolve_left h5
    simp only [↓wR,RA,simprocAttr,TF,db,Fs n i c hc h5,h6]
   ·have h5:gh c=0:=by simpa using h
    simp only [↓wR,RA,simprocAttr,TF]
    refine ⟨i+1,⟨by omega,by rw [Fm n i c hc,hb];simp [h5]⟩,by omega,?_⟩
    simp only [List.cons.injEq,and_true,true_and,AV.sc.injEq,Value.int.injEq]
    rw [wrap_i64 _ (by omega) (by omega)];omega
  ·have h4:i=n.length:=by simp at h;omega
   subst h4
   rw [List.take_length] at hb
   simp only [↓wR,RA,simprocAttr,TF,vv,hn]
   rw [fe]
   refine ⟨fun h=>?_,fun h=>?_⟩
   ·have h5 : 255<bj n:=by simp at h;omega
    simp only [↓wR,RA,simprocAttr,TF,db,hb,h5]
   ·have h5:¬ 255<bj n:=by simp at h;omega
    simp only [↓wR,RA,simprocAttr,TF,db,hb,h5]
noncomputable def pz (x:Name × Unit):Option AV:=if bj x.1<17592186044416 then some ((r1 (bz .i64)).E true (db x.1)) else none
set_option maxRecDepth 2000000 in
theorem wi (x:Name × Unit) (r:AV) (h:pz x=some r):bp PP 27 ((aC aq a0).E x) r:=by
 by_cases hc:bj x.1<17592186044416
 case neg=>simp only [pz,if_neg hc] at h;cases h
 simp only [pz,if_pos hc] at h
 cases h
 exact az (ak.cons (aj M4) (ak.cons (aj O0) (ak.nil PP))) Try.func27 (by kernel_rfl) (by kernel_rfl) (by kernel_rfl) (Nat.le_of_ble_eq_true (by kernel_rfl)) (r1 (bz .i64)) true (db x.1) (V1 x.1 hc)
noncomputable abbrev Gv:Nat × Bool × (List AV→M AV):=(27,true,de (aC aq a0) pz)
def low (c:UInt8):UInt8:=if 65≤c∧c≤90 then c+32 else c
def fold (s:ByteArray):ByteArray:=⟨(s.data.toList.map low).toArray⟩
def la (l:List UInt8) (i:Nat):List UInt8:=(l.take i).map low++l.drop i
theorem afx (l:List UInt8) (i:Nat):(la l i).length=l.length:=by simp [la];omega
theorem Pt (l:List UInt8) (i:Nat) (h:i<l.length):(la l i)[i]? = l[i]? := by
 simp [la,List.getElem?_append,Nat.min_eq_left (Nat.le_of_lt h)]
theorem Pq (l:List UInt8) (i:Nat) (h:i<l.length):(la l i).take i++[low l[i]]++(la l i).drop (i+1)=la l (i+1):=by
 have h1:((l.take i).map low).length=i:=by simp;omega
 have h2:(la l i).take i=(l.take i).map low:=by rw [la,List.take_append_of_le_length (by omega),List.take_of_length_le (by omega)]
 have h3:(la l i).drop (i+1)=l.drop (i+1):=by
  rw [la,List.drop_append,List.drop_eq_nil_of_le (by omega),h1]
  simp
 rw [h2,h3,la,List.take_succ_eq_append_getElem h,List.map_append]
 rfl
theorem Mq (l:List UInt8) (i:Nat) (h:i<l.length) (hk:low l[i]=l[i]):la l i=la l (i+1):=by
 rw [← Pq l i h,hk]
 have:(la l i)[i]? = some l[i]:=by rw [Pt l i h];simp [h]
 obtain ⟨hlt,e⟩:=List.getElem?_eq_some_iff.1 this
 rw [← e,← List.take_succ_eq_append_getElem hlt,List.take_append_drop]
set_option maxRecDepth 20000 in
theorem Xl (s:ByteArray) (hs:s.size≤16777216):wl PP [] 0 (Try.f87.body.getD .skip) (dk PP Try.f87.results.toList (fun r st=>(r1 ai).get true st.h r=some (fold s))) (cw 0 [ai.val false s]) (bk []):=by
 unfold Try.f87
 have hl:s.data.toList.length=s.size:=by simp
 simp only [↓wR,RA,simprocAttr,TF,hs]
 refine dm [3,8,9,10] (fun (x:Nat)=>[.sl 0 0 s.size 1,.sl 0 0 s.size 1,.sc (.int .i64 s.size),.sc (.int .i64 x)]) (fun x=>[some (.row ((la s.data.toList x).map (aw.val false)) 0 1 5)]) (fun x=>x≤s.size) (fun x=>s.size - x) 0 (Nat.zero_le _) ?_ ?_ ?_
 ·simp only [↓wR,RA,simprocAttr,TF]<;>rfl
 ·simp only [↓wR,RA,simprocAttr,TF]<;>rfl
 ·intro i hi
  simp only [↓wR,RA,simprocAttr,TF]
  rw [fe]
  refine ⟨fun h=>?_,fun h=>?_⟩
  ·have h4:i<s.size:=by simp at h;omega
   have h6:i<s.data.toList.length:=by omega
   have h5:(la s.data.toList i)[i]? = some s.data.toList[i]:=by rw [Pt s.data.toList i h6];simp [h6]
   obtain ⟨c,hc⟩:∃ c,s.data.toList[i]=c:=⟨_,rfl⟩
   have hcl:=c.toNat_lt
   rw [hc] at h5
   simp only [↓wR,RA,simprocAttr,TF,h4,h5]
   rw [fe]
   refine ⟨fun h1=>?_,fun h1=>?_⟩
   ·simp only [↓wR,RA,simprocAttr,TF,h1]
    rw [fe]
    refine ⟨fun h2=>?_,fun h2=>?_⟩
    ·have h7:i+1≤s.size:=by omega
     have hlow:low c=c+32:=by
      simp at h1 h2
      have a1 : 65≤c:=by rw [UInt8.le_iff_toNat_le];simp;omega
      have a2:c≤90:=by rw [UInt8.le_iff_toNat_le];simp;omega
      simp [low,a1,a2]
     have hw:IntKind.u8.wrap (IntKind.u8.wrap ((c.toNat:Int)+97) - 65)=((low c).toNat:Int):=by
      simp at h1 h2
      rw [hlow]
      simp [IntKind.wrap,IntKind.bits,IntKind.signed,UInt8.toNat_add]
      omega
     have hst:List.map (aw.val false) (List.take i (la s.data.toList i))++[AV.sc (Value.int IntKind.u8 ((low c).toNat:Int))]++List.map (aw.val false) (List.drop (i+1) (la s.data.toList i))=List.map (aw.val false) (la s.data.toList (i+1)):=by
      rw [← Pq s.data.toList i h6,hc,List.map_append,List.map_append];rfl
     simp only [↓wR,RA,simprocAttr,TF,h4,h7,afx,hl,hw,hst]
     refine ⟨i+1,h7,by omega,?_,rfl⟩
     rw [wrap_i64 _ (by omega) (by omega)];rfl
    ·simp only [↓wR,RA,simprocAttr,TF]
     have hk:low c=c:=by
      simp at h2
      have a2:¬ c≤90:=by rw [UInt8.le_iff_toNat_le];simp;omega
      simp [low,a2]
     refine ⟨i+1,by omega,by omega,?_,?_⟩
     ·rw [wrap_i64 _ (by omega) (by omega)];rfl
     ·rw [Mq s.data.toList i h6 (by rw [hc];exact hk)]
   ·simp only [↓wR,RA,simprocAttr,TF,h1]
    have hk:low c=c:=by
     simp at h1
     have a2:¬ 65≤c:=by rw [UInt8.le_iff_toNat_le];simp;omega
     simp [low,a2]
    refine ⟨i+1,by omega,by omega,?_,?_⟩
    ·rw [wrap_i64 _ (by omega) (by omega)];rfl
    ·rw [Mq s.data.toList i h6 (by rw [hc];exact hk)]
  ·have h4:i=s.size:=by simp at h;omega
   subst h4
   have:∃ m,List.map low s.data.toList=m:=⟨_,rfl⟩
   obtain ⟨m,hm⟩:=this
   have h5:la s.data.toList s.size=m:=by rw [la,List.take_of_length_le (Nat.le_of_eq hl),List.drop_eq_nil_of_le (Nat.le_of_eq hl),List.append_nil,hm]
   have hlm:m.length=s.size:=by rw [← hm,List.length_map,hl]
   have h6:List.take s.size (List.map (aw.val false) m)=List.map (aw.val false) m:=List.take_of_length_le (by rw [List.length_map,hlm];exact Nat.le_refl _)
   have hf:fold s=⟨m.toArray⟩:=by rw [fold,hm]
   rw [h5,hf]
   simp only [↓wR,RA,simprocAttr,TF,hlm,h6]
noncomputable def vz (x:ByteArray × Unit):Option AV:=if x.1.size≤16777216 then some ((r1 ai).E true (fold x.1)) else none
set_option maxRecDepth 2000000 in
theorem N8 (x:ByteArray × Unit) (r:AV) (h:vz x=some r):bp PP 87 ((aC ai a0).E x) r:=by
 by_cases hc:x.1.size≤16777216
 case neg=>simp only [vz,if_neg hc] at h;cases h
 simp only [vz,if_pos hc] at h
 cases h
 exact az (ak.nil PP) Try.func87 (by kernel_rfl) (by kernel_rfl) (by kernel_rfl) (Nat.le_of_ble_eq_true (by kernel_rfl)) (r1 ai) true (fold x.1) (Xl x.1 hc)
noncomputable abbrev adq:Nat × Bool × (List AV→M AV):=(87,true,de (aC ai a0) vz)
end Go.Proofs.Ytgencolcibpcaaa
end
section
namespace Go.Proofs.Ytgencolcibpcaaa
open Go.Vm Go.RowKit
theorem an6 {x:Value} (h:ke x = .str):∃ s,x = .string s:=by cases x<;>first|exact ⟨_,rfl⟩|cases h
theorem Df {x:Value} {k:IntKind} (h:ke x = .int k):∃ i,x = .int k i:=by cases x<;>first|(cases h;exact ⟨_,rfl⟩)|cases h
theorem G3:Try.f38.ntmps=22:=rfl
set_option maxHeartbeats 1600000 in
set_option maxRecDepth 1000000 in
theorem tl {S:Nat→Prop} {M:Nat} {v:Value} {w:World} (hM:M<9223372036854775807) (hv:ln S M w .str v) :
 Calls PP 38 #[v] w (fun e w'=>∃ r,e = .returned r∧fy S 1 false w w'):=by
 rcases hv with ⟨a,rfl⟩|⟨b,off,n,cap,cs,e,rfl,h1,⟨h2,hcm⟩,h3,h4,h5,h6⟩
 ·go_enter Try.func38,G3
  cases a with
  |none=>
   go_wp2
   refine wp_loop_rounds 1 ?_
   rw [rounds_succ]
   go_wp2
   go_end0
   exact ⟨_,rfl,.refl _ _ _ _⟩
  |some a=>
   go_wp2
   refine wp_loop_rounds 1 ?_
   rw [rounds_succ]
   go_wp2
   go_end0
   exact ⟨_,rfl,.refl _ _ _ _⟩
 unfold maxLen at hcm
 go_enter Try.func38,G3
 go_wp2
 go_loopw [3] (fun i wr=>∃ k:Nat,k≤cap∧i = .int .i64 k∧Lp w b cs e off 1 k wr)
  (fun i _=>cap - (RowKit.intOf i).toNat)
 case atStart=>exact ⟨0,Nat.zero_le _,rfl,.start h3⟩
 case round=>
  obtain ⟨k,hk,rfl,hl⟩:=hrel
  by_cases hkc:k<cap
  ·have hlt:off+k<cs.size:=by omega
   obtain ⟨x,hx⟩:∃ x,cs[off+k]? = some x:=⟨_,Array.getElem?_eq_getElem hlt⟩
   obtain ⟨q1,q2⟩:=h6 k x hkc hx
   obtain ⟨s,rfl⟩:=an6 q1
   have hs:=hl.cell hx
   have hfz:=hl.frozen (off+k)
   have hsM:s.size+1≤9223372036854775807:=by have:=q2 s rfl;omega
   go_wp2
   go_roundw
   case rel=>exact ⟨k+1,by omega,by simp,hl.step hx (by simp [ke]) rfl (fun s' e=>by cases e;exact ⟨s,rfl,by rw [ByteArray.size_append];exact Nat.le_refl _⟩)⟩
   case measure=>simp [RowKit.intOf];omega
  ·go_wp2
   go_end0
   exact ⟨_,rfl,hl.lu h3 h1⟩
theorem Ul:Try.f74.ntmps=22:=rfl
set_option maxHeartbeats 1600000 in
set_option maxRecDepth 1000000 in
theorem Sm {S:Nat→Prop} {M:Nat} {v:Value} {w:World} (hv:ln S M w (.int .u8) v) :
 Calls PP 74 #[v] w (fun e w'=>∃ r,e = .returned r∧fy S 1 false w w'):=by
 obtain ⟨base,n,cap,rfl,h2,hcm,hb0⟩:=hv.form
 unfold maxLen at hcm
 have hst:=Gc.start (m:=1) hv
 go_enter Try.func74,Ul
 go_wp2
 go_loopw [3] (fun i wr=>∃ k:Nat,k≤cap∧i = .int .i64 k∧Gc S 1 k w (.slice base n cap) wr)
  (fun i _=>cap - (RowKit.intOf i).toNat)
 case atStart=>exact ⟨0,Nat.zero_le _,rfl,hst⟩
 case round=>
  obtain ⟨k,hk,rfl,hl⟩:=hrel
  by_cases hkc:k<cap
  ·obtain ⟨b,off,x,rfl,hs,hfz,q1,q2,hstep⟩:=hl.at (by decide) hv hkc
   obtain ⟨y,rfl⟩:=Df q1
   go_wp2
   go_roundw
   case rel=>exact ⟨k+1,by omega,by simp,hstep _ rfl (fun s' e=>by cases e)⟩
   case measure=>simp [RowKit.intOf];omega
  ·go_wp2
   go_end0
   exact ⟨_,rfl,hl.lu⟩
theorem Yu:Try.f39.ntmps=44:=rfl
set_option maxHeartbeats 1600000 in
set_option maxRecDepth 1000000 in
theorem Gq {S:Nat→Prop} {Nn M:Nat} {va vb vc vd:Value} {w:World} (hM4 : 4≤M) (hM:M+(Nn+3)<9223372036854775807) (hS:∀ b,w.heap.size≤b→S b) (hv:tn S Nn M w [va,vb,vc,vd]) :
 Calls PP 39 #[.agg #[va,vb,vc,vd]] w (fun e w'=>∃ r,e = .returned r∧fy S (Nn+3) false w w'):=by
 obtain ⟨_,_,_,_,he,ha,hb,hc,hd⟩:=hv
 cases he
 have hal:fy S 0 false w (w.alloc (.cells #[va,vb,vc,vd] 47)):=fy.alloc _
 obtain ⟨bn,an,cn,rfl,an1,an2,an3,an4⟩:=ha.form
 obtain ⟨bm,am,cm,rfl,am2,am3,am4⟩:=hb.form
 unfold maxLen at an3 am3
 have hheap:(w.alloc (.cells #[Value.slice bn an cn,.slice bm am cm,vc,vd] 47)).heap[w.heap.size]? = some (.cells #[Value.slice bn an cn,.slice bm am cm,vc,vd] 47 (0,0)):=Aj _ _
 have cell:∀ {m:Nat} {wr:World},fy S m false (w.alloc (.cells #[Value.slice bn an cn,.slice bm am cm,vc,vd] 47)) wr→wr.cell? ⟨w.heap.size,0,none⟩=some (.slice bn an cn)∧wr.cell? ⟨w.heap.size,1,none⟩=some (.slice bm am cm)∧wr.cell? ⟨w.heap.size,2,none⟩=some vc∧wr.cell? ⟨w.heap.size,3,none⟩=some vd:=by
  intro m wr h
  refine ⟨h.stay (by rw [ib hheap];rfl) rfl,h.stay (by rw [ib hheap];rfl) rfl,h.stay (by rw [ib hheap];rfl) hc.slice,h.stay (by rw [ib hheap];rfl) hd.slice⟩
 go_enter Try.func39,Yu
 go_wp2
 go_loopw [2] (fun i wr=>∃ k:Nat,k≤an∧i = .int .i64 k∧fy S k false (w.alloc (.cells #[Value.slice bn an cn,.slice bm am cm,vc,vd] 47)) wr)
  (fun i _=>an - (RowKit.intOf i).toNat)
 case atStart=>exact ⟨0,Nat.zero_le _,rfl,.refl _ _ _ _⟩
 case round=>
  obtain ⟨k,hk,rfl,ho⟩:=hrel
  obtain ⟨c0,c1,c2,c3⟩:=cell ho
  by_cases hkc:k<an
  ·have hn:=Gg hM4 (hal.trans ho) ha
   obtain ⟨b,off,cs,e,rfl,e1,e2,e3,e4,e5,e6,v,e7,e8⟩:=hn.at hkc
   have h9:cs.getD (off+k) undef=v:=by simpa using e7
   have hx:wr.cell? ⟨b,off+k,none⟩=some v:=by rw [← h9];exact cell_of e2 (by omega)
   go_wp2
   refine (tl (by omega) e8).mono ?_
   rintro ex w2 ⟨r,rfl,hov⟩
   go_wp2
   go_roundw
   case rel=>exact ⟨k+1,hkc,by simp,ho.trans hov⟩
   case measure=>simp [RowKit.intOf];omega
  ·go_wp2
   have hbb:=(hb.lu (by decide) (hal.trans ho)).mono (M':=M+Nn) (by omega)
   have hst:=Gc.start (m:=1) hbb
   go_loopw [4] (fun i w2=>∃ q:Nat,q≤cm∧i = .int .i64 q∧Gc S 1 q wr (.slice bm am cm) w2)
    (fun i _=>cm - (RowKit.intOf i).toNat)
   case atStart=>exact ⟨0,Nat.zero_le _,rfl,hst⟩
   case round=>
    obtain ⟨q,hq,rfl,hl⟩:=hrel
    by_cases hqc:q<cm
    ·obtain ⟨b,off,x,rfl,hs,hfz,q1,q2,hstep⟩:=hl.at (by decide) hbb hqc
     obtain ⟨y,rfl⟩:=Df q1
     go_wp2
     go_roundw
     case rel=>exact ⟨q+1,by omega,by simp,hstep _ rfl (fun s' e=>by cases e)⟩
     case measure=>simp [RowKit.intOf];omega
    ·have ho2:=hl.lu
     obtain ⟨d0,d1,d2,d3⟩:=cell (ho.trans ho2)
     go_wp2
     have h3:=(hal.trans ho).trans ho2
     refine (tl (M:=M+(0+k+1)) (by omega) (hc.lu (by decide) h3)).mono ?_
     rintro ex w2 ⟨r,rfl,hov⟩
     obtain ⟨f0,f1,f2,f3⟩:=cell ((ho.trans ho2).trans hov)
     go_wp2
     refine (Sm (hd.lu (by decide) (h3.trans hov))).mono ?_
     rintro ex w3 ⟨r2,rfl,hov2⟩
     go_wp2
     go_end0
     exact ⟨_,rfl,((h3.trans hov).trans hov2).mono (by omega)⟩
theorem anq:TK.sz 9=some 1:=by kernel_rfl
theorem Ys:Try.f10.ntmps=86:=rfl
set_option maxHeartbeats 3200000 in
set_option maxRecDepth 1000000 in
theorem Tx {S:Nat→Prop} {Nn Nd N M:Nat} {v:Value} {w:World} (hM4 : 4≤M) (hM:M+N * (1+Nd * (Nn+3))+(Nn+3)<9223372036854775807) (hS:∀ b,w.heap.size≤b→S b) (hv:jr S N w 5 (u1 S Nn Nd M) v) :
 Calls PP 10 #[v] w (fun e w'=>∃ r,e = .returned r∧fy S (N * (1+Nd * (Nn+3))) true w w'):=by
 obtain ⟨bn,an,cn,rfl,an1,an2,an3,an4⟩:=hv.form
 unfold maxLen at an3
 go_enter Try.func10,Ys
 go_wp2
 go_loopw [2] (fun i wr=>∃ k:Nat,k≤an∧i = .int .i64 k∧fy S (k * (1+Nd * (Nn+3))) true w wr)
  (fun i _=>an - (RowKit.intOf i).toNat)
 case atStart=>exact ⟨0,Nat.zero_le _,rfl,(fy.refl _ _ _ _)⟩
 case round=>
  obtain ⟨k,hk,rfl,ho⟩:=hrel
  by_cases hkc:k<an
  ·have hn:=Tc hM4 ho hv
   obtain ⟨b,off,cs,e,rfl,e1,e2,e3,e4,e5,e6,o,ty,cl,u,d,e7,e8,e9,e10,e11,e12⟩:=hn.at hkc
   simp only [show List.range 5=[0,1,2,3,4] from rfl,List.map_cons,List.map_nil,List.cons.injEq,and_true,Nat.add_zero] at e7
   obtain ⟨g0,g1,g2,g3,g4⟩:=e7
   have c0:wr.cell? ⟨b,off+k * 5,none⟩=some o:=by rw [← g0];exact cell_of e2 (by omega)
   have c4:wr.cell? ⟨b,off+k * 5+4,none⟩=some d:=by rw [← g4];exact cell_of e2 (by omega)
   go_wp2
   refine (tl (M:=M+k * (1+Nd * (Nn+3))) (by have:=Nat.mul_le_mul_right (1+Nd * (Nn+3)) (show k≤N by omega);omega) e8).mono ?_
   rintro ex w2 ⟨r,rfl,hov⟩
   obtain ⟨bd,dn,dc,rfl,d1,d2,d3,d4⟩:=e12.form
   unfold maxLen at d3
   have hsz:w.heap.size≤w2.heap.size:=Nat.le_trans ho.size hov.size
   have f4:w2.cell? ⟨b,off+k * 5+4,none⟩=some (.slice bd dn dc):=hov.stay c4 rfl
   go_wp2
   go_loopw [3] (fun i wr2=>∃ q:Nat,q≤dn∧i = .int .i64 q∧fy S (q * (Nn+3)) false w2 wr2)
    (fun i _=>dn - (RowKit.intOf i).toNat)
   case atStart=>exact ⟨0,Nat.zero_le _,rfl,(fy.refl _ _ _ _)⟩
   case round=>
    obtain ⟨q,hq,rfl,ho2⟩:=hrel
    have f5:=ho2.stay f4 rfl
    by_cases hqc:q<dn
    ·have hd2:=Bx (by omega) (hov.trans ho2) e12
     obtain ⟨b2,off2,cs2,et2,rfl,p1,p2,p3,p4,p5,p6,p7⟩:=hd2.at hqc
     obtain ⟨x0,x1,x2,x3,p8,p9⟩:=id p7
     simp only [show List.range 4=[0,1,2,3] from rfl,List.map_cons,List.map_nil,List.cons.injEq,and_true,Nat.add_zero] at p8
     obtain ⟨q0,q1,q2,q3⟩:=p8
     have i0:wr.cell? ⟨b2,off2+q * 4,none⟩=some x0:=by rw [← q0];exact cell_of p2 (by omega)
     have i1:wr.cell? ⟨b2,off2+q * 4+1,none⟩=some x1:=by rw [← q1];exact cell_of p2 (by omega)
     have i2:wr.cell? ⟨b2,off2+q * 4+2,none⟩=some x2:=by rw [← q2];exact cell_of p2 (by omega)
     have i3:wr.cell? ⟨b2,off2+q * 4+3,none⟩=some x3:=by rw [← q3];exact cell_of p2 (by omega)
     have hk1:k * (1+Nd * (Nn+3))+(1+Nd * (Nn+3))≤N * (1+Nd * (Nn+3)):=by rw [← Nat.succ_mul];exact Nat.mul_le_mul_right _ (by omega)
     have hq1:q * (Nn+3)+(Nn+3)≤Nd * (Nn+3):=by rw [← Nat.succ_mul];exact Nat.mul_le_mul_right _ (by omega)
     go_wp2
     refine (Gq (M:=M+k * (1+Nd * (Nn+3))+(1+q * (Nn+3))) (by omega) (by omega) (fun b hb=>hS b (by have:=ho2.size;omega)) ⟨x0,x1,x2,x3,rfl,p9⟩).mono ?_
     rintro ex w3 ⟨r3,rfl,hov3⟩
     go_wp2
     go_roundw
     case rel=>exact ⟨q+1,hqc,by simp,by rw [Nat.succ_mul];exact ho2.trans hov3⟩
     case measure=>simp [RowKit.intOf];omega
    ·go_wp2
     go_region
     go_wp2
     have hq1:q=dn:=by omega
     subst hq1
     have h3:=hov.trans ho2
     go_loopw [5] (fun i wr3=>∃ p:Nat,q≤p∧(p≤dc∨p=q)∧i = .int .i64 p∧fy S 0 true wr wr3)
      (fun i _=>dc - (RowKit.intOf i).toNat)
     case atStart=>exact ⟨q,Nat.le_refl _,.inr rfl,rfl,fy.quiet _ _ _ (Nat.le_refl _) rfl rfl rfl (fun _ _=>rfl)⟩
     case round=>
      obtain ⟨p,hp1,hp2,rfl,ho3⟩:=hrel
      by_cases hpc:p<dc
      ·have hd3:=Bx (xx:=true) (by omega) (h3.any.trans ho3) e12
       obtain ⟨b2,off2,cs2,et2,rfl,p1,p2,p3,p4,p5,p6⟩:=hd3.room hpc
       have hfz:=Wr p2
       have m0:=fun o=>zq p2 o (j:=off2+p * 4) (by omega)
       have m1:=fun o=>zq p2 o (j:=off2+p * 4+1) (by omega)
       have m2:=fun o=>zq p2 o (j:=off2+p * 4+2) (by omega)
       have m3:=fun o=>zq p2 o (j:=off2+p * 4+3) (by omega)
       go_wp2
       go_roundw
       case rel=>exact ⟨p+1,by omega,.inl (by omega),by simp,ho3.trans (fy.spare p2 p1 p3 (hS _ (by have:=ho3.size;have:=ho2.size;omega)) (by omega) anq (by decide))⟩
       case measure=>simp [RowKit.intOf];omega
      ·have ht:=(ho.trans h3.any).trans ho3
       obtain ⟨b',off',cs',e',he',y1,y2,y3,y4,y5,y6,o',ty',cl',u',d',y7,y8,y9,y10,y11,y12⟩:=(Tc hM4 ht hv).at hkc
       cases he'
       simp only [show List.range 5=[0,1,2,3,4] from rfl,List.map_cons,List.map_nil,List.cons.injEq,and_true,Nat.add_zero] at y7
       obtain ⟨z0,z1',z2,z3',z4⟩:=y7
       have l1:wr.cell? ⟨b,off+k * 5+1,none⟩=some ty':=by rw [← z1'];exact cell_of y2 (by omega)
       have l3:wr.cell? ⟨b,off+k * 5+3,none⟩=some u':=by rw [← z3'];exact cell_of y2 (by omega)
       have z1:=yk y2 (off+k * 5+1)
       have z3:=yk y2 (off+k * 5+3)
       obtain ⟨i1,rfl⟩:=Df y9
       obtain ⟨i3,rfl⟩:=Df y11
       go_wp2
       have hs3:=fy.set (v:=.int .u32 (bits BinOp.xor .u32 i3 77)) y2 y1 (j:=off+k * 5+3) (x:=.int .u32 i3) (by rw [← z3',Array.getD_eq_getD_getElem?,Array.getElem?_eq_getElem (by omega)];rfl) (by intro q;cases q) rfl (fun s q=>by cases q)
       have hs1:=fy.set (v:=.int .u16 (bits BinOp.xor .u16 i1 77)) hs3.2 y1 (j:=off+k * 5+1) (x:=.int .u16 i1) (by rw [Array.getElem?_setIfInBounds,if_neg (by omega),← z1',Array.getD_eq_getD_getElem?,Array.getElem?_eq_getElem (by omega)];rfl) (by intro q;cases q) rfl (fun s q=>by cases q)
       have hq3:q * (Nn+3)≤Nd * (Nn+3):=Nat.mul_le_mul_right _ d1
       go_roundw
       case rel=>exact ⟨k+1,hkc,by simp,by rw [Nat.succ_mul];exact ((ht.trans (hs3.1.trans hs1.1).any)).mono (by omega)⟩
       case measure=>simp [RowKit.intOf];omega
  ·go_wp2
   go_end0
   exact ⟨_,rfl,ho.mono (Nat.mul_le_mul_right _ (by omega))⟩
theorem Ob:Try.f24.ntmps=41:=rfl
set_option maxHeartbeats 3200000 in
set_option maxRecDepth 1000000 in
theorem M6 {S:Nat→Prop} {Nn N M:Nat} {v:Value} {w:World} (hM4 : 4≤M) (hM:M+N * (1+(Nn+3))+(Nn+3)<9223372036854775807) (hS:∀ b,w.heap.size≤b→S b) (hv:jr S N w 8 (Ki S Nn M) v) :
 Calls PP 24 #[v] w (fun e w'=>∃ r,e = .returned r∧fy S (N * (1+(Nn+3))) true w w'):=by
 obtain ⟨bn,an,cn,rfl,an1,an2,an3,an4⟩:=hv.form
 unfold maxLen at an3
 go_enter Try.func24,Ob
 go_wp2
 go_loopw [2] (fun i wr=>∃ k:Nat,k≤an∧i = .int .i64 k∧fy S (k * (1+(Nn+3))) true w wr)
  (fun i _=>an - (RowKit.intOf i).toNat)
 case atStart=>exact ⟨0,Nat.zero_le _,rfl,(fy.refl _ _ _ _)⟩
 case round=>
  obtain ⟨k,hk,rfl,ho⟩:=hrel
  by_cases hkc:k<an
  ·have hk1:k * (1+(Nn+3))+(1+(Nn+3))≤N * (1+(Nn+3)):=by rw [← Nat.succ_mul];exact Nat.mul_le_mul_right _ (by omega)
   have hn:=Jt hM4 ho hv
   obtain ⟨b,off,cs,e,rfl,e1,e2,e3,e4,e5,e6,o,ty,cl,u,d,e7,e8,e9,e10,e11,x0,x1,x2,x3,rfl,e12⟩:=hn.at hkc
   simp only [show List.range 8=[0,1,2,3,4,5,6,7] from rfl,List.map_cons,List.map_nil,List.cons.injEq,and_true,Nat.add_zero] at e7
   obtain ⟨g0,g1,g2,g3,g4,g5,g6,g7⟩:=e7
   have c0:wr.cell? ⟨b,off+k * 8,none⟩=some o:=by rw [← g0];exact cell_of e2 (by omega)
   have c4:wr.cell? ⟨b,off+k * 8+4,none⟩=some x0:=by rw [← g4];exact cell_of e2 (by omega)
   have c5:wr.cell? ⟨b,off+k * 8+5,none⟩=some x1:=by rw [← g5];exact cell_of e2 (by omega)
   have c6:wr.cell? ⟨b,off+k * 8+6,none⟩=some x2:=by rw [← g6];exact cell_of e2 (by omega)
   have c7:wr.cell? ⟨b,off+k * 8+7,none⟩=some x3:=by rw [← g7];exact cell_of e2 (by omega)
   go_wp2
   refine (tl (M:=M+k * (1+(Nn+3))) (by omega) e8).mono ?_
   rintro ex w2 ⟨r,rfl,hov⟩
   have c4':=hov.stay c4 e12.1.slice
   have c5':=hov.stay c5 e12.2.1.slice
   have c6':=hov.stay c6 e12.2.2.1.slice
   have c7':=hov.stay c7 e12.2.2.2.slice
   have hd:=tn.lu (by omega) hov ⟨x0,x1,x2,x3,rfl,e12⟩
   go_wp2
   refine (Gq (M:=M+k * (1+(Nn+3))+1) (by omega) (by omega) (fun b hb=>hS b (by have:=ho.size;have:=hov.size;omega)) hd).mono ?_
   rintro ex w3 ⟨r3,rfl,hov3⟩
   have ht:=ho.trans (hov.trans hov3).any
   obtain ⟨b',off',cs',e',he',y1,y2,y3,y4,y5,y6,o',ty',cl',u',d',y7,y8,y9,y10,y11,x0',x1',x2',x3',rfl,y12⟩:=(Jt hM4 ht hv).at hkc
   cases he'
   simp only [show List.range 8=[0,1,2,3,4,5,6,7] from rfl,List.map_cons,List.map_nil,List.cons.injEq,and_true,Nat.add_zero] at y7
   obtain ⟨z0,z1',z2,z3',z4⟩:=y7
   have l1:w3.cell? ⟨b,off+k * 8+1,none⟩=some ty':=by rw [← z1'];exact cell_of y2 (by omega)
   have l3:w3.cell? ⟨b,off+k * 8+3,none⟩=some u':=by rw [← z3'];exact cell_of y2 (by omega)
   have z1:=yk y2 (off+k * 8+1)
   have z3:=yk y2 (off+k * 8+3)
   obtain ⟨i1,rfl⟩:=Df y9
   obtain ⟨i3,rfl⟩:=Df y11
   go_wp2
   have hs3:=fy.set (v:=.int .u32 (bits BinOp.xor .u32 i3 77)) y2 y1 (j:=off+k * 8+3) (x:=.int .u32 i3) (by rw [← z3',Array.getD_eq_getD_getElem?,Array.getElem?_eq_getElem (by omega)];rfl) (by intro q;cases q) rfl (fun s q=>by cases q)
   have hs1:=fy.set (v:=.int .u16 (bits BinOp.xor .u16 i1 77)) hs3.2 y1 (j:=off+k * 8+1) (x:=.int .u16 i1) (by rw [Array.getElem?_setIfInBounds,if_neg (by omega),← z1',Array.getD_eq_getD_getElem?,Array.getElem?_eq_getElem (by omega)];rfl) (by intro q;cases q) rfl (fun s q=>by cases q)
   go_roundw
   case rel=>exact ⟨k+1,hkc,by simp,by rw [Nat.succ_mul];exact ((ht.trans (hs3.1.trans hs1.1).any)).mono (by omega)⟩
   case measure=>simp [RowKit.intOf];omega
  ·go_wp2
   go_end0
   exact ⟨_,rfl,ho.mono (Nat.mul_le_mul_right _ (by omega))⟩
end Go.Proofs.Ytgencolcibpcaaa
end
section
namespace Go.Proofs.Ytgencolcibpcaaa
open Go.Vm
def Zr:List ByteArray→List ByteArray→Nat
 |a::r,b::q=>if fold a=fold b then Zr r q+1 else 0
 |_,_=>0
def common (a b:Name):Nat:=Zr a.reverse b.reverse
noncomputable def ap1 (a b:ByteArray):Int:=Lib.compareBytes a.data.toList b.data.toList
def gb (n:Name):List ByteArray:=n.map fold
def ee (n:Name):Prop:=bj n≤16777216
instance (n:Name):Decidable (ee n):=inferInstanceAs (Decidable (_≤_))
theorem Ub {n:Name} {s:ByteArray} (h:s ∈ n):s.size<bj n:=by
 obtain ⟨a,b,rfl⟩:=List.append_of_mem h
 have h1:=n5 a ([s]++b)
 have h2:=n5 [s] b
 have h3:bj [s]=s.size+2:=by simp [bj];omega
 have h4:∀ l:Name,1≤bj l:=fun l=>by have:=(iu l 0).2;omega
 have:=h4 a;have:=h4 b
 simp only [List.singleton_append] at h1 h2
 omega
theorem ee.label {n:Name} (h:ee n):∀ s ∈ n,s.size≤16777216:=fun s hs=>by have:=Ub hs;unfold ee at h;omega
def tu (a b:Name):Bool:=decide (gb a=gb b)
def z9 (n top:Name):Bool:=decide (gb top <:+ gb n)
noncomputable def ao4 (a b:Name) (k:Nat):Int:=
 match a[a.length - 1 - k]?,b[b.length - 1 - k]? with
 |some x,some y=>ap1 (fold x) (fold y)
 |_,_=>0
noncomputable def apq (a b:Name):Int:=
 if common a b=a.length∧common a b=b.length then 0 else if common a b=a.length then -1 else if common a b=b.length then 1 else ao4 a b (common a b)
theorem ee.lt {n:Name} (h:ee n):n.length<16777216:=by have:=(iu n 0).2;unfold ee at h;omega
theorem Yw (n:Name) (hn:ee n):wl PP [] 0 (Try.f30.body.getD .skip) (dk PP Try.f30.results.toList (fun r st=>(r1 aq).get true st.h r=some n)) (cw 0 [aq.val false n]) (bk []):=by
 unfold Try.f30
 simp only [cx]
 have hlim:n.length * 16≤140737488355328:=by have:=hn.lt;omega
 simp only [↓wR,RA,simprocAttr,TF,hlim]
noncomputable def m4 (x:Name × Unit):Option AV:=if ee x.1 then some ((r1 aq).E true (x.1)) else none
set_option maxRecDepth 2000000 in
theorem qk (x:Name × Unit) (r:AV) (h:m4 x=some r):bp PP 30 ((aC aq a0).E x) r:=by
 by_cases hc:ee x.1
 case neg=>simp only [m4,if_neg hc] at h;cases h
 simp only [m4,if_pos hc] at h
 cases h
 exact az (ak.nil PP) Try.func30 (by kernel_rfl) (by kernel_rfl) (by kernel_rfl) (Nat.le_of_ble_eq_true (by kernel_rfl)) (r1 aq) true (x.1) (Yw x.1 hc)
noncomputable abbrev Au:Nat × Bool × (List AV→M AV):=(30,true,de (aC aq a0) m4)
theorem ag1 {n:Name} {i:Nat} {c:ByteArray} (hc:n[i]? = some c):gb (n.drop i)=fold c::gb (n.drop (i+1)):=by rw [Cp hc];rfl
theorem Xs (n:Name) (hn:ee n):wl PP [adq] 0 (Try.f57.body.getD .skip) (dk PP Try.f57.results.toList (fun r st=>(r1 aq).get true st.h r=some (gb n))) (cw 0 [aq.val false n]) (bk []):=by
 unfold Try.f57
 simp only [cx]
 have hln:=hn.lt
 simp only [↓wR,RA,simprocAttr,TF]
 refine fj [6,7,8,3] (fun (x:List ByteArray)=>[.vl false 1 (n.map (ai.val false)),.sc (.int .i64 n.length),.sc (.int .i64 x.length),.sl 0 0 x.length 1]) (fun x=>[some (.row (x.map (ai.val false)) 0 0 9)]) (fun x=>x++gb (n.drop x.length)=gb n∧x.length≤n.length) (fun x=>n.length - x.length) [] ⟨rfl,Nat.zero_le _⟩ (by simp only [↓wR,RA,simprocAttr,TF];(refine jl.lax [] (by first|exact Nat.le_of_ble_eq_true rfl|(simp [cy];omega)) ?_ ?_<;>repeat' first|exact dx.nil|exact bt.nil|exact ek.same _|exact ek.nil _ _ _|exact ek.ml _ _|exact bt.refl _ _|apply dx.cons|apply bt.ghost|apply bt.same|apply bt.row)) ?_
 rintro x ⟨hR,hx⟩
 simp only [↓wR,RA,simprocAttr,TF]
 rw [fe];refine ⟨fun h=>?_,fun h=>?_⟩
 ·obtain ⟨c,hc,hd,hlt⟩:=ey h
  have hlim:(x.length+1) * 16≤140737488355328:=by omega
  simp only [↓wR,RA,simprocAttr,TF,hc,vz,hn.label c (List.mem_of_getElem? hc),hlim]
  refine ⟨x++[fold c],⟨?_,by simp;omega⟩,by simp;omega,by (first|rfl|trivial|omega|((try (simp (disch:=omega) only [ah]));(try (simp only [FB]));first|done|rfl|omega)),by (first|rfl|trivial|omega|((try (simp (disch:=omega) only [ah]));(try (simp only [FB]));first|done|rfl|omega))⟩
  rw [← hR,ag1 hc];simp
 ·rw [ij h] at hR
  simp only [↓wR,RA,simprocAttr,TF,h]
  simpa [gb] using hR
noncomputable def x8 (x:Name × Unit):Option AV:=if ee x.1 then some ((r1 aq).E true (gb x.1)) else none
set_option maxRecDepth 2000000 in
theorem Rt (x:Name × Unit) (r:AV) (h:x8 x=some r):bp PP 57 ((aC aq a0).E x) r:=by
 by_cases hc:ee x.1
 case neg=>simp only [x8,if_neg hc] at h;cases h
 simp only [x8,if_pos hc] at h
 cases h
 exact az (ak.cons (aj N8) (ak.nil PP)) Try.func57 (by kernel_rfl) (by kernel_rfl) (by kernel_rfl) (Nat.le_of_ble_eq_true (by kernel_rfl)) (r1 aq) true (gb x.1) (Xs x.1 hc)
noncomputable abbrev ag5:Nat × Bool × (List AV→M AV):=(57,true,de (aC aq a0) x8)
theorem E8 {n:Name} (h:db n=0):bj n≤255:=by
 unfold db at h
 split at h
 ·cases h
 ·split at h
  ·cases h
  ·omega
theorem ee.fit {n:Name} (h:ee n):bj n<17592186044416:=by unfold ee at h;omega
def aa8:ByteArray:=⟨#[42]⟩
def fl (s:ByteArray):List UInt8:=UInt8.ofNat s.size::s.data.toList
def nameBytes (n:Name):List UInt8:=n.flatMap fl++[0]
def jg (n:Name):List UInt8:=if db n≠0 then [] else nameBytes n
theorem xk (s):(fl s).length=s.size+1:=by simp [fl]
theorem qi (n:Name):(n.flatMap fl).length+1=bj n:=by
 induction n with
 |nil=>rfl
 |cons a l ih=>
  have:=n5 [a] l
  have h3:bj [a]=a.size+2:=by simp [bj];omega
  simp only [List.singleton_append] at this
  simp only [List.flatMap_cons,List.length_append,xk]
  omega
theorem Wb (n:Name) (hn:ee n):wl PP [Gv] 0 (Try.f85.body.getD .skip) (dk PP Try.f85.results.toList (fun r st=>(r2 (bw aw) (bz .i64)).get true st.h r=some (jg n,db n))) (cw 0 [aq.val false n]) (bk []):=by
 unfold Try.f85
 simp only [cx]
 have hln:=hn.lt
 simp only [↓wR,RA,simprocAttr,TF,pz,hn.fit]
 rw [fe];refine ⟨fun h=>?_,fun h=>?_⟩
 ·have he:db n≠0:=by simpa using h
  have hb:jg n=[]:=if_pos he
  simp only [↓wR,RA,simprocAttr,TF,hb]
 have he:db n=0:=by simpa using h
 have hb:jg n=nameBytes n:=if_neg (by omega)
 rw [hb,he]
 simp only [↓wR,RA,simprocAttr,TF]
 refine fj [13,14,15,5] (fun (x:Nat × List UInt8)=>[.vl false 1 (n.map (ai.val false)),.sc (.int .i64 n.length),.sc (.int .i64 x.1),.sl 0 0 x.2.length 1]) (fun x=>[some (.row (x.2.map (aw.val false)) 0 0 5)]) (fun x=>x.2++(n.drop x.1).flatMap fl=n.flatMap fl∧x.1≤n.length) (fun x=>n.length - x.1) (0,[]) ⟨rfl,Nat.zero_le _⟩ (by simp only [↓wR,RA,simprocAttr,TF];(refine jl.lax [] (by first|exact Nat.le_of_ble_eq_true rfl|(simp [cy];omega)) ?_ ?_<;>repeat' first|exact dx.nil|exact bt.nil|exact ek.same _|exact ek.nil _ _ _|exact ek.ml _ _|exact bt.refl _ _|apply dx.cons|apply bt.ghost|apply bt.same|apply bt.row)) ?_
 rintro ⟨i,x⟩ ⟨hR,hx⟩
 simp only at hR hx
 have hnb:=qi n
 have hsm:=E8 he
 simp only [↓wR,RA,simprocAttr,TF]
 rw [fe];refine ⟨fun h2=>?_,fun h2=>?_⟩
 ·obtain ⟨c,hc,hd,hlt⟩:=ey h2
  rw [hd,List.flatMap_cons] at hR
  have hl:x.length+(fl c).length≤(n.flatMap fl).length:=by rw [← hR];simp
  rw [xk] at hl
  simp only [↓wR,RA,simprocAttr,TF,hc];repeat (simp (disch:=omega) only [ah,cd,cf,cb,ca];try simp only [↓wR,RA,simprocAttr,TF,hc])
  refine ⟨(i+1,x++fl c),⟨by rw [← hR];simp,hlt⟩,by simp;omega,?_,by simp only [fl,List.map_append,List.map_cons,List.append_assoc,List.singleton_append,yh]⟩
  simp only [List.cons.injEq,and_true,true_and,AV.sc.injEq,Value.int.injEq,AV.sl.injEq,fl,List.length_append,List.length_cons]
  refine ⟨by (try simp (disch:=omega) only [ah,cd,cf,cb,ca]);simp,by simp;omega⟩
 ·rw [ij h2] at hR
  have hl:x.length<bj n:=by rw [← hnb,← hR];simp
  simp only [↓wR,RA,simprocAttr,TF,h2];repeat (simp (disch:=omega) only [ah,cd,cf,cb,ca];try simp only [↓wR,RA,simprocAttr,TF,h2])
  simp only [nameBytes,← hR];simp
noncomputable def qw (x:Name × Unit):Option AV:=if ee x.1 then some ((r2 (bw aw) (bz .i64)).E true ((jg x.1,db x.1))) else none
set_option maxRecDepth 2000000 in
theorem Nb (x:Name × Unit) (r:AV) (h:qw x=some r):bp PP 85 ((aC aq a0).E x) r:=by
 by_cases hc:ee x.1
 case neg=>simp only [qw,if_neg hc] at h;cases h
 simp only [qw,if_pos hc] at h
 cases h
 exact az (ak.cons (aj wi) (ak.nil PP)) Try.func85 (by kernel_rfl) (by kernel_rfl) (by kernel_rfl) (Nat.le_of_ble_eq_true (by kernel_rfl)) (r2 (bw aw) (bz .i64)) true ((jg x.1,db x.1)) (Wb x.1 hc)
noncomputable abbrev abt:Nat × Bool × (List AV→M AV):=(85,true,de (aC aq a0) qw)
end Go.Proofs.Ytgencolcibpcaaa
end
section
namespace Go.Proofs.Ytgencolcibpcaaa
open Go.Vm
set_option maxRecDepth 2000000
theorem D5 {α:Type} {f : α→AV} {xs:List α} (h:xs≠[]) (op l sz p q):Hm op (.vl l sz (xs.map f)) (.sc (.slice none p q))=mq op false:=by
 cases xs with
 |nil=>exact (h rfl).elim
 |cons x xs=>rfl
def Gm (v:Value):Prop:=v = .slice none 0 0∨∃ a c,v = .slice (some a) 0 c
theorem wc {f:Nat} {r:AV} {sz:Nat} (h:∀ v,Gm v→bp PP f [.sc v] r):bp PP f [.vl false sz []] r:=by
 intro K w vs hK hrel
 obtain ⟨v,rfl,hv⟩:=J9 hrel
 have hE:Gm v:=by
  cases hv with
  |vl=>exact .inr ⟨_,_,rfl⟩
  |jh=>exact .inl rfl
  |o0=>exact .inr ⟨_,_,rfl⟩
 exact h v hE K w [v] hK (be.cons (.sc v) (be.nil _ _))
theorem Yv (l:List UInt32) (hne:l≠[]) (hl:l.length≤16777216):wl PP [] 0 (Try.f64.body.getD .skip) (dk PP Try.f64.results.toList (fun r st=>(r1 (bw bh)).get true st.h r=some l)) (cw 0 [(bw bh).val false l]) (bk []):=by
 unfold Try.f64
 rw [nf]
 have hb:l.length * 4≤140737488355328:=by omega
 simp only [↓wR,RA,simprocAttr,TF,D5 hne,hb]
theorem W8 (v:Value) (hv:Gm v):wl PP [] 0 (Try.f64.body.getD .skip) (dk PP Try.f64.results.toList (fun r st=>(r1 (bw bh)).get true st.h r=some [])) (cw 0 [.sc v]) (bk []):=by
 unfold Try.f64
 rcases hv with rfl|⟨a,c,rfl⟩
 ·simp only [↓wR,RA,simprocAttr,TF]
 ·simp only [↓wR,RA,simprocAttr,TF]
noncomputable def uo (x:List UInt32 × Unit):Option AV:=if x.1.length≤16777216 then some ((r1 (bw bh)).E true x.1) else none
theorem E7 (x:List UInt32 × Unit) (r:AV) (h:uo x=some r):bp PP 64 ((aC (bw bh) a0).E x) r:=by
 by_cases hc:x.1.length≤16777216
 case neg=>simp only [uo,if_neg hc] at h;cases h
 simp only [uo,if_pos hc] at h
 cases h
 obtain ⟨l,⟨⟩⟩:=x
 by_cases hn:l=[]
 ·subst hn
  exact wc (sz:=1) fun v hv=>az (ak.nil PP) Try.func64 (by kernel_rfl) (by kernel_rfl) (by kernel_rfl) (Nat.le_of_ble_eq_true (by kernel_rfl)) (r1 (bw bh)) true [] (W8 v hv)
 ·exact az (ak.nil PP) Try.func64 (by kernel_rfl) (by kernel_rfl) (by kernel_rfl) (Nat.le_of_ble_eq_true (by kernel_rfl)) (r1 (bw bh)) true l (Yv l hn hc)
noncomputable abbrev Tw:Nat × Bool × (List AV→M AV):=(64,true,de (aC (bw bh) a0) uo)
theorem Yb (l:List ByteArray) (hne:l≠[]) (hl:l.length≤16777216):wl PP [] 0 (Try.f65.body.getD .skip) (dk PP Try.f65.results.toList (fun r st=>(r1 (bw ai)).get true st.h r=some l)) (cw 0 [(bw ai).val false l]) (bk []):=by
 unfold Try.f65
 rw [nf]
 have hb:l.length * 16≤140737488355328:=by omega
 simp only [↓wR,RA,simprocAttr,TF,D5 hne,hb]
theorem Uw (v:Value) (hv:Gm v):wl PP [] 0 (Try.f65.body.getD .skip) (dk PP Try.f65.results.toList (fun r st=>(r1 (bw ai)).get true st.h r=some [])) (cw 0 [.sc v]) (bk []):=by
 unfold Try.f65
 rcases hv with rfl|⟨a,c,rfl⟩
 ·simp only [↓wR,RA,simprocAttr,TF]
 ·simp only [↓wR,RA,simprocAttr,TF]
noncomputable def uv (x:List ByteArray × Unit):Option AV:=if x.1.length≤16777216 then some ((r1 (bw ai)).E true x.1) else none
theorem E3 (x:List ByteArray × Unit) (r:AV) (h:uv x=some r):bp PP 65 ((aC (bw ai) a0).E x) r:=by
 by_cases hc:x.1.length≤16777216
 case neg=>simp only [uv,if_neg hc] at h;cases h
 simp only [uv,if_pos hc] at h
 cases h
 obtain ⟨l,⟨⟩⟩:=x
 by_cases hn:l=[]
 ·subst hn
  exact wc (sz:=1) fun v hv=>az (ak.nil PP) Try.func65 (by kernel_rfl) (by kernel_rfl) (by kernel_rfl) (Nat.le_of_ble_eq_true (by kernel_rfl)) (r1 (bw ai)) true [] (Uw v hv)
 ·exact az (ak.nil PP) Try.func65 (by kernel_rfl) (by kernel_rfl) (by kernel_rfl) (Nat.le_of_ble_eq_true (by kernel_rfl)) (r1 (bw ai)) true l (Yb l hn hc)
noncomputable abbrev Wq:Nat × Bool × (List AV→M AV):=(65,true,de (aC (bw ai) a0) uv)
theorem aax (l:List UInt8) (hne:l≠[]) (hl:l.length≤16777216):wl PP [] 0 (Try.f66.body.getD .skip) (dk PP Try.f66.results.toList (fun r st=>(r1 (bw aw)).get true st.h r=some l)) (cw 0 [(bw aw).val false l]) (bk []):=by
 unfold Try.f66
 rw [nf]
 have hb:l.length≤140737488355328:=by omega
 simp only [↓wR,RA,simprocAttr,TF,D5 hne,hb]
theorem Yq (v:Value) (hv:Gm v):wl PP [] 0 (Try.f66.body.getD .skip) (dk PP Try.f66.results.toList (fun r st=>(r1 (bw aw)).get true st.h r=some [])) (cw 0 [.sc v]) (bk []):=by
 unfold Try.f66
 rcases hv with rfl|⟨a,c,rfl⟩
 ·simp only [↓wR,RA,simprocAttr,TF]
 ·simp only [↓wR,RA,simprocAttr,TF]
noncomputable def xi (x:List UInt8 × Unit):Option AV:=if x.1.length≤16777216 then some ((r1 (bw aw)).E true x.1) else none
theorem F0 (x:List UInt8 × Unit) (r:AV) (h:xi x=some r):bp PP 66 ((aC (bw aw) a0).E x) r:=by
 by_cases hc:x.1.length≤16777216
 case neg=>simp only [xi,if_neg hc] at h;cases h
 simp only [xi,if_pos hc] at h
 cases h
 obtain ⟨l,⟨⟩⟩:=x
 by_cases hn:l=[]
 ·subst hn
  exact wc (sz:=1) fun v hv=>az (ak.nil PP) Try.func66 (by kernel_rfl) (by kernel_rfl) (by kernel_rfl) (Nat.le_of_ble_eq_true (by kernel_rfl)) (r1 (bw aw)) true [] (Yq v hv)
 ·exact az (ak.nil PP) Try.func66 (by kernel_rfl) (by kernel_rfl) (by kernel_rfl) (Nat.le_of_ble_eq_true (by kernel_rfl)) (r1 (bw aw)) true l (aax l hn hc)
noncomputable abbrev Zs:Nat × Bool × (List AV→M AV):=(66,true,de (aC (bw aw) a0) xi)
structure Shape where
 names:Int
 nums:Int
 size:Int
 texts:Int
 raw:Int
noncomputable def qc:cq Shape:=z5 (js (bz .i64) (js (bz .i64) (js (bz .i64) (js (bz .i64) (bz .i64))))) (fun s=>(s.names,s.nums,s.size,s.texts,s.raw)) (fun p=>⟨p.1,p.2.1,p.2.2.1,p.2.2.2.1,p.2.2.2.2⟩) (fun _=>rfl) (fun _=>rfl)
theorem Az (l:Bool) (s:Shape):qc.val l s = .agg [.sc (.int .i64 s.names),.sc (.int .i64 s.nums),.sc (.int .i64 s.size),.sc (.int .i64 s.texts),.sc (.int .i64 s.raw)]:=id rfl
theorem jm (fr h) (a b c d e:Int):qc.fw fr h (.agg [.sc (.int .i64 a),.sc (.int .i64 b),.sc (.int .i64 c),.sc (.int .i64 d),.sc (.int .i64 e)])=some ⟨a,b,c,d,e⟩:=am6 qc fr h ⟨a,b,c,d,e⟩
def cg (t:UInt16):Shape:=
 if (t.toNat:Int)=1 then ⟨0,0,0,0,4⟩ else if (t.toNat:Int)=28 then ⟨0,0,0,0,16⟩ else if (t.toNat:Int)=2 then ⟨1,0,0,0,0⟩ else if (t.toNat:Int)=5 then ⟨1,0,0,0,0⟩ else if (t.toNat:Int)=12 then ⟨1,0,0,0,0⟩
 else if (t.toNat:Int)=6 then ⟨2,5,4,0,0⟩ else if (t.toNat:Int)=15 then ⟨1,1,2,0,0⟩ else if (t.toNat:Int)=33 then ⟨1,3,2,0,0⟩ else if (t.toNat:Int)=16 then ⟨0,0,0,-1,0⟩ else if (t.toNat:Int)=257 then ⟨0,1,1,2,0⟩ else ⟨0,0,0,0,-1⟩
theorem aep (t:UInt16):wl PP [] 0 (Try.f54.body.getD .skip) (dk PP Try.f54.results.toList (fun r st=>(r1 qc).get true st.h r=some (cg t))) (cw 0 [b9.val false t]) (bk []):=by
 unfold Try.f54
 unfold cg
 simp only [↓wR,RA,simprocAttr,TF]
 rw [ct];refine ⟨fun ⟨h0,e0⟩=>?_,fun ⟨h0,e0⟩=>?_⟩
 ·simp only [↓wR,RA,simprocAttr,TF,h0]
  rw [if_pos e0]
  exact jm ..
 rw [if_neg e0]
 simp only [↓wR,RA,simprocAttr,TF,h0]
 rw [ct];refine ⟨fun ⟨h1,e1⟩=>?_,fun ⟨h1,e1⟩=>?_⟩
 ·simp only [↓wR,RA,simprocAttr,TF,h1]
  rw [if_pos e1]
  exact jm ..
 rw [if_neg e1]
 simp only [↓wR,RA,simprocAttr,TF,h1]
 rw [ct];refine ⟨fun ⟨h2,e2⟩=>?_,fun ⟨h2,e2⟩=>?_⟩
 ·simp only [↓wR,RA,simprocAttr,TF,h2]
  rw [if_pos e2]
  exact jm ..
 rw [if_neg e2]
 simp only [↓wR,RA,simprocAttr,TF,h2]
 rw [ct];refine ⟨fun ⟨h3,e3⟩=>?_,fun ⟨h3,e3⟩=>?_⟩
 ·simp only [↓wR,RA,simprocAttr,TF,h3]
  rw [if_pos e3]
  exact jm ..
 rw [if_neg e3]
 simp only [↓wR,RA,simprocAttr,TF,h3]
 rw [ct];refine ⟨fun ⟨h4,e4⟩=>?_,fun ⟨h4,e4⟩=>?_⟩
 ·simp only [↓wR,RA,simprocAttr,TF,h4]
  rw [if_pos e4]
  exact jm ..
 rw [if_neg e4]
 simp only [↓wR,RA,simprocAttr,TF,h4]
 rw [ct];refine ⟨fun ⟨h5,e5⟩=>?_,fun ⟨h5,e5⟩=>?_⟩
 ·simp only [↓wR,RA,simprocAttr,TF,h5]
  rw [if_pos e5]
  exact jm ..
 rw [if_neg e5]
 simp only [↓wR,RA,simprocAttr,TF,h5]
 rw [ct];refine ⟨fun ⟨h6,e6⟩=>?_,fun ⟨h6,e6⟩=>?_⟩
 ·simp only [↓wR,RA,simprocAttr,TF,h6]
  rw [if_pos e6]
  exact jm ..
 rw [if_neg e6]
 simp only [↓wR,RA,simprocAttr,TF,h6]
 rw [ct];refine ⟨fun ⟨h7,e7⟩=>?_,fun ⟨h7,e7⟩=>?_⟩
 ·simp only [↓wR,RA,simprocAttr,TF,h7]
  rw [if_pos e7]
  exact jm ..
 rw [if_neg e7]
 simp only [↓wR,RA,simprocAttr,TF,h7]
 rw [ct];refine ⟨fun ⟨h8,e8⟩=>?_,fun ⟨h8,e8⟩=>?_⟩
 ·simp only [↓wR,RA,simprocAttr,TF,h8]
  rw [if_pos e8]
  exact jm ..
 rw [if_neg e8]
 simp only [↓wR,RA,simprocAttr,TF,h8]
 rw [ct];refine ⟨fun ⟨h9,e9⟩=>?_,fun ⟨h9,e9⟩=>?_⟩
 ·simp only [↓wR,RA,simprocAttr,TF,h9]
  rw [if_pos e9]
  exact jm ..
 rw [if_neg e9]
 simp only [↓wR,RA,simprocAttr,TF,h9]
 exact jm ..
noncomputable def Al (x:UInt16 × Unit):Option AV:=some ((r1 qc).E true (cg x.1))
set_option maxRecDepth 2000000 in
theorem z6 (x:UInt16 × Unit) (r:AV) (h:Al x=some r):bp PP 54 ((aC b9 a0).E x) r:=by
 cases h
 exact az (ak.nil PP) Try.func54 (by kernel_rfl) (by kernel_rfl) (by kernel_rfl) (Nat.le_of_ble_eq_true (by kernel_rfl)) (r1 qc) true (cg x.1) (aep x.1)
noncomputable abbrev Nw:Nat × Bool × (List AV→M AV):=(54,true,de (aC b9 a0) Al)
def kg (t:UInt16):Bool:=(t.toNat:Int) == 0 || (decide ((128:Int)≤(t.toNat:Int)) && decide ((t.toNat:Int)≤255))
theorem aei (t:UInt16):wl PP [] 0 (Try.f53.body.getD .skip) (dk PP Try.f53.results.toList (fun r st=>(r1 cp).get true st.h r=some (kg t))) (cw 0 [b9.val false t]) (bk []):=by
 unfold Try.f53
 unfold kg
 simp only [↓wR,RA,simprocAttr,TF]
 rw [ct];refine ⟨fun ⟨h,e⟩=>?_,fun ⟨h,e⟩=>?_⟩
 ·simp only [↓wR,RA,simprocAttr,TF,h]
 ·simp only [↓wR,RA,simprocAttr,TF,h]
  rw [bf];refine ⟨fun h2=>?_,fun h2=>?_⟩
  ·simp only [↓wR,RA,simprocAttr,TF,h2]
  ·simp only [↓wR,RA,simprocAttr,TF,h2]
   rfl
noncomputable def O1 (x:UInt16 × Unit):Option AV:=some ((r1 cp).E true (kg x.1))
set_option maxRecDepth 2000000 in
theorem Yd (x:UInt16 × Unit) (r:AV) (h:O1 x=some r):bp PP 53 ((aC b9 a0).E x) r:=by
 cases h
 exact az (ak.nil PP) Try.func53 (by kernel_rfl) (by kernel_rfl) (by kernel_rfl) (Nat.le_of_ble_eq_true (by kernel_rfl)) (r1 cp) true (kg x.1) (aei x.1)
noncomputable abbrev ane:Nat × Bool × (List AV→M AV):=(53,true,de (aC b9 a0) O1)
noncomputable def u3 (n:UInt32):List UInt8:=[UInt8.ofNat (n.toNat / 16777216),UInt8.ofNat (n.toNat / 65536),UInt8.ofNat (n.toNat / 256),UInt8.ofNat n.toNat]
theorem air (n:UInt32):wl PP [] 0 (Try.f84.body.getD .skip) (dk PP Try.f84.results.toList (fun r st=>(r1 (bw aw)).get true st.h r=some (u3 n))) (cw 0 [bh.val false n]) (bk []):=by
 unfold Try.f84
 simp only [↓wR,RA,simprocAttr,TF]
 rfl
noncomputable def Hv (x:UInt32 × Unit):Option AV:=some ((r1 (bw aw)).E true (u3 x.1))
set_option maxRecDepth 2000000 in
theorem Xp (x:UInt32 × Unit) (r:AV) (h:Hv x=some r):bp PP 84 ((aC bh a0).E x) r:=by
 cases h
 exact az (ak.nil PP) Try.func84 (by kernel_rfl) (by kernel_rfl) (by kernel_rfl) (Nat.le_of_ble_eq_true (by kernel_rfl)) (r1 (bw aw)) true (u3 x.1) (air x.1)
noncomputable abbrev amz:Nat × Bool × (List AV→M AV):=(84,true,de (aC bh a0) Hv)
def w9 (c:UInt8):Bool:=decide (97≤c.toNat∧c.toNat≤122∨65≤c.toNat∧c.toNat≤90∨48≤c.toNat∧c.toNat≤57)
def pd (s:ByteArray):Bool:=s.data.toList.all w9 && decide (1≤s.size∧s.size≤15)
theorem anb (s:ByteArray) (hs:s.size≤16777216):wl PP [] 0 (Try.f81.body.getD .skip) (dk PP Try.f81.results.toList (fun r st=>(r1 cp).get true st.h r=some (pd s))) (cw 0 [ai.val false s]) (bk []):=by
 unfold Try.f81
 simp only [↓wR,RA,simprocAttr,TF]
 refine dm [0,6,7] (fun (i:Nat)=>[.sc (.string s),.sc (.int .i64 s.size),.sc (.int .i64 i)]) (fun _=>[]) (fun i=>i≤s.size∧s.data.toList.all w9=(s.data.toList.drop i).all w9) (fun i=>s.size - i) 0 ⟨Nat.zero_le _,rfl⟩ ?_ ?_ ?_
 ·simp only [↓wR,RA,simprocAttr,TF]<;>rfl
 ·simp only [↓wR,RA,simprocAttr,TF]
 rintro i ⟨hi,hR⟩
 simp only [↓wR,RA,simprocAttr,TF]
 rw [bf];refine ⟨fun h=>?_,fun h=>?_⟩
 ·obtain ⟨c,hc⟩:∃ c,s.data.toList[i]? = some c:=⟨_,List.getElem?_eq_getElem (by simp;omega)⟩
  have hd:=Cp hc
  rw [hd,List.all_cons] at hR
  simp only [↓wR,RA,simprocAttr,TF,h,hc];repeat (simp (disch:=omega) only [ah,cd,cf,cb,ca];try simp only [↓wR,RA,simprocAttr,TF,h,hc])
  repeat' (rw [bf];refine ⟨fun h=>?_,fun h=>?_⟩<;>simp only [↓wR,RA,simprocAttr,TF,h,hc])
  all_goals first
   |(
    have ht:w9 c=false:=by (unfold w9;rw [decide_eq_false_iff_not];omega)
    rw [pd,hR,ht];rfl)
   |(
    have ht:w9 c=true:=by (unfold w9;rw [decide_eq_true_eq];omega)
    refine ⟨i+1,⟨by omega,by rw [hR,ht];simp⟩,by omega,by (first|rfl|trivial|omega|((try (simp (disch:=omega) only [ah]));(try (simp only [FB]));first|done|rfl|omega))⟩)
 ·have hdn:s.data.toList.drop i=[]:=List.drop_eq_nil_of_le (by simp;omega)
  rw [hdn,List.all_nil] at hR
  simp only [↓wR,RA,simprocAttr,TF,h]
  unfold pd
  rw [hR]
  rw [bf];refine ⟨fun h1=>?_,fun h1=>?_⟩
  ·simp only [↓wR,RA,simprocAttr,TF,h1]
   congr 1
   rw [Bool.eq_iff_iff];simp;omega
  ·simp only [↓wR,RA,simprocAttr,TF,h1]
   congr 1
   rw [Bool.eq_iff_iff];simp;omega
noncomputable def Mu (x:ByteArray × Unit):Option AV:=if x.1.size≤16777216 then some ((r1 cp).E true (pd x.1)) else none
set_option maxRecDepth 2000000 in
theorem agb (x:ByteArray × Unit) (r:AV) (h:Mu x=some r):bp PP 81 ((aC ai a0).E x) r:=by
 by_cases hc:x.1.size≤16777216
 case neg=>simp only [Mu,if_neg hc] at h;cases h
 simp only [Mu,if_pos hc] at h
 cases h
 exact az (ak.nil PP) Try.func81 (by kernel_rfl) (by kernel_rfl) (by kernel_rfl) (Nat.le_of_ble_eq_true (by kernel_rfl)) (r1 cp) true (pd x.1) (anb x.1 hc)
noncomputable abbrev apv:Nat × Bool × (List AV→M AV):=(81,true,de (aC ai a0) Mu)
def jq {α:Type} (f : α→Nat) (l:List α):Nat:=l.foldr (fun x k=>f x+k+1) 0
def po (d:au):Nat:=jq bj d.names+d.nums.length+jq ByteArray.size d.texts+d.raw.length
theorem Oy {α:Type} {f : α→Nat} {l:List α} {x : α} (h:x ∈ l):f x<jq f l:=by
 induction l with
 |nil=>cases h
 |cons a l ih=>
  simp only [jq,List.foldr_cons] at ih ⊢
  rcases List.mem_cons.1 h with rfl|h
  ·omega
  ·have:=ih h;omega
theorem N2 {α:Type} (f : α→Nat) (l:List α):l.length≤jq f l:=by
 induction l with
 |nil=>exact Nat.le_refl _
 |cons a l ih=>simp only [jq,List.foldr_cons,List.length_cons] at ih ⊢;omega
def bg (d:au):Prop:=po d≤16777216
instance (d:au):Decidable (bg d):=inferInstanceAs (Decidable (_≤_))
theorem bg.name {d:au} (h:bg d):∀ n ∈ d.names,ee n:=fun n hn=>by
 have h1:bj n<jq bj d.names:=Oy hn
 unfold bg po at h;unfold ee;omega
theorem bg.text {d:au} (h:bg d):∀ s ∈ d.texts,s.size≤16777216:=fun s hs=>by
 have h1:ByteArray.size s<jq ByteArray.size d.texts:=Oy hs
 unfold bg po at h;omega
theorem bg.lens {d:au} (h:bg d):d.names.length≤16777216∧d.nums.length≤16777216∧d.texts.length≤16777216∧d.raw.length≤16777216:=by
 have h1:=N2 bj d.names
 have h2:=N2 ByteArray.size d.texts
 unfold bg po at h;omega
noncomputable def vh (s:Shape):Int:=IntKind.u32.wrap (1 * 2 ^ (if (8 * s.size).toNat≤32 then (8 * s.size).toNat else 32))
noncomputable def oy (s:Shape) (t:UInt16) (d:au):Bool:=
 if (d.names.length:Int)≠s.names∨(d.nums.length:Int)≠s.nums∨(0≤s.raw∧(d.raw.length:Int)≠s.raw) then false
 else if s.size<4∧(d.nums.any fun n=>decide (vh s≤(n.toNat:Int)))=true then false
 else if (t.toNat:Int)=257 then decide (d.texts.length=2) && pd (d.texts.headD ⟨#[]⟩)
 else if s.texts=0 then decide (d.texts.length=0)
 else decide (0<d.texts.length) && !(d.texts.any fun x=>decide (255<x.size))
noncomputable def Nm (s:Shape) (t:UInt16) (d:au):Bool:=
 if s.size<4∧(d.nums.any fun n=>decide (vh s≤(n.toNat:Int)))=true then false
 else if (t.toNat:Int)=257 then decide (d.texts.length=2) && pd (d.texts.headD ⟨#[]⟩)
 else if s.texts=0 then decide (d.texts.length=0)
 else decide (0<d.texts.length) && !(d.texts.any fun x=>decide (255<x.size))
theorem ak3 (s:Shape) (t:UInt16) (d:au) (hs : 0≤s.size∧s.size≤4) (hd:bg d):wl PP [apv] 0 (Try.f55.body.getD .skip) (dk PP Try.f55.results.toList (fun r st=>(r1 cp).get true st.h r=some (oy s t d))) (cw 0 [qc.val false s,b9.val false t,ag.val false d]) (bk []):=by
 unfold Try.f55
 obtain ⟨l1,l2,l3,l4⟩:=hd.lens
 simp only [Az,dy,cx]
 simp only [↓wR,RA,simprocAttr,TF]
 rw [dp];refine ⟨fun ⟨h,e⟩=>?_,fun ⟨h,e⟩=>?_⟩
 ·have hv:oy s t d=false:=if_pos (.inl e)
  simp only [↓wR,RA,simprocAttr,TF,h,hv]
 simp only [↓wR,RA,simprocAttr,TF,h]
 rw [dp];refine ⟨fun ⟨h2,e2⟩=>?_,fun ⟨h2,e2⟩=>?_⟩
 ·have hv:oy s t d=false:=if_pos (.inr (.inl e2))
  simp only [↓wR,RA,simprocAttr,TF,h2,hv]
 simp only [↓wR,RA,simprocAttr,TF,h2]
 have hraw:¬ (0≤s.raw∧(d.raw.length:Int)≠s.raw)→oy s t d=Nm s t d:=fun hr=>if_neg (fun h=>by
  rcases h with h|h|h
  ·exact h e
  ·exact h e2
  ·exact hr h)
 rw [bf];refine ⟨fun h3=>?_,fun h3=>?_⟩
 simp only [↓wR,RA,simprocAttr,TF,h3]
 rw [dp];refine ⟨fun ⟨h4,e4⟩=>?_,fun ⟨h4,e4⟩=>?_⟩
 have hv:oy s t d=false:=if_pos (.inr (.inr ⟨h3,e4⟩))
 simp only [↓wR,RA,simprocAttr,TF,h4,hv]
 rw [hraw (fun q=>q.2 e4)]
 simp only [↓wR,RA,simprocAttr,TF,h4]
 rotate_left
 rw [hraw (fun q=>h3 q.1)]
 simp only [↓wR,RA,simprocAttr,TF,h3]
 all_goals
  clear hraw
  refine dm [1,3,5,37,38,39] (fun (i:Nat)=>[.sc (.int .u16 t.toNat),.ptr 0 0,.ptr 1 0,.vl false 1 (d.nums.map (bh.val false)),.sc (.int .i64 d.nums.length),.sc (.int .i64 i)]) (fun _=>[some (.row [.sc (.int .i64 s.names),.sc (.int .i64 s.nums),.sc (.int .i64 s.size),.sc (.int .i64 s.texts),.sc (.int .i64 s.raw)] 0 2 95),some (.row [.vl false 1 (d.names.map (aq.val false)),.vl false 1 (d.nums.map (bh.val false)),.vl false 1 (d.texts.map (ai.val false)),.vl false 1 (d.raw.map (aw.val false))] 0 2 47)]) (fun i=>i≤d.nums.length∧(s.size<4→(d.nums.any fun n=>decide (vh s≤(n.toNat:Int)))=((d.nums.drop i).any fun n=>decide (vh s≤(n.toNat:Int))))) (fun i=>d.nums.length - i) 0 ⟨Nat.zero_le _,fun _=>rfl⟩ (by simp only [↓wR,RA,simprocAttr,TF]<;>rfl) (by simp only [↓wR,RA,simprocAttr,TF]<;>rfl) ?_
  clear h h2 e e2
  rintro i ⟨hi,hR⟩
  simp only [↓wR,RA,simprocAttr,TF]
  rw [bf];refine ⟨fun h=>?_,fun h=>?_⟩
  ·obtain ⟨c,hc,hd1,hlt⟩:=ey (decide_eq_true h)
   rw [hd1,List.any_cons] at hR
   simp only [↓wR,RA,simprocAttr,TF,h,hc]
   rw [bf];refine ⟨fun h5=>?_,fun h5=>?_⟩
   ·have hR:=hR h5
    have h80:(0:Int)≤8 * s.size:=by omega
    simp only [↓wR,RA,simprocAttr,TF,h5,h80];repeat (simp (disch:=omega) only [ah,cd,cf,cb,ca];try simp only [↓wR,RA,simprocAttr,TF,h5,h80])
    rw [bf];refine ⟨fun h6=>?_,fun h6=>?_⟩
    ·have hv:Nm s t d=false:=by
      rw [Nm,if_pos ⟨h5,by rw [hR,decide_eq_true (show vh s≤(c.toNat:Int) from h6)];rfl⟩]
     simp only [↓wR,RA,simprocAttr,TF,h6,hv]
    ·simp only [↓wR,RA,simprocAttr,TF,h6];repeat (simp (disch:=omega) only [ah,cd,cf,cb,ca];try simp only [↓wR,RA,simprocAttr,TF,h6])
     refine ⟨i+1,⟨hlt,fun _=>?_⟩,by omega,by (first|rfl|trivial|omega|((try (simp (disch:=omega) only [ah]));(try (simp only [FB]));first|done|rfl|omega))⟩
     rw [hR,decide_eq_false (show ¬ vh s≤(c.toNat:Int) from h6),Bool.false_or]
   ·simp only [↓wR,RA,simprocAttr,TF,h5];repeat (simp (disch:=omega) only [ah,cd,cf,cb,ca];try simp only [↓wR,RA,simprocAttr,TF,h5])
    exact ⟨i+1,⟨hlt,fun h=>h.elim⟩,by omega,by (first|rfl|trivial|omega|((try (simp (disch:=omega) only [ah]));(try (simp only [FB]));first|done|rfl|omega))⟩
  ·rw [ij (decide_eq_false h),List.any_nil] at hR
   have hr:Nm s t d=if (t.toNat:Int)=257 then decide (d.texts.length=2) && pd (d.texts.headD ⟨#[]⟩) else if s.texts=0 then decide (d.texts.length=0) else decide (0<d.texts.length) && !(d.texts.any fun x=>decide (255<x.size)):=by
    rw [Nm,if_neg];rintro ⟨q1,q2⟩;rw [hR q1] at q2;cases q2
   simp only [↓wR,RA,simprocAttr,TF,h]
   rw [ct];refine ⟨fun ⟨h6,e6⟩=>?_,fun ⟨h6,e6⟩=>?_⟩
   ·rw [if_pos e6] at hr
    simp only [↓wR,RA,simprocAttr,TF,h6]
    rw [ct];refine ⟨fun ⟨h7,e7⟩=>?_,fun ⟨h7,e7⟩=>?_⟩
    ·obtain ⟨c,hc⟩:∃ c,d.texts[0]? = some c:=⟨_,List.getElem?_eq_getElem (by omega)⟩
     have hh:d.texts.headD ⟨#[]⟩=c:=by
      cases ht:d.texts with
      |nil=>rw [ht] at hc;cases hc
      |cons a l=>rw [ht] at hc;simpa using hc
     rw [hh,decide_eq_true (show d.texts.length=2 by omega)] at hr
     simp only [↓wR,RA,simprocAttr,TF,h7,hc,Mu,hd.text c (List.mem_of_getElem? hc)]
     rw [hr];rfl
    ·simp only [↓wR,RA,simprocAttr,TF,h7]
     rw [hr,decide_eq_false (show ¬ d.texts.length=2 by omega)];rfl
   ·rw [if_neg e6] at hr
    simp only [↓wR,RA,simprocAttr,TF,h6]
    rw [ct];refine ⟨fun ⟨h7,e7⟩=>?_,fun ⟨h7,e7⟩=>?_⟩
    ·rw [if_pos e7] at hr
     simp only [↓wR,RA,simprocAttr,TF,h7]
     rw [hr];congr 1
     rw [Bool.eq_iff_iff];simp
    ·rw [if_neg e7] at hr
     simp only [↓wR,RA,simprocAttr,TF,h7]
     rw [bf];refine ⟨fun h8=>?_,fun h8=>?_⟩
     ·simp only [↓wR,RA,simprocAttr,TF,h8]
      refine fu (T:=[]) (ak.nil PP) mixed Try.func82 rfl (by kernel_rfl) (by kernel_rfl) (by kernel_rfl) (by kernel_rfl) ?_;unfold Try.f82
      simp only [↓wR,RA,simprocAttr,TF]
      refine fu (T:=[]) (ak.nil PP) mixed Try.func99 rfl (by kernel_rfl) (by kernel_rfl) (by kernel_rfl) (by kernel_rfl) ?_;unfold Try.f99
      simp only [↓wR,RA,simprocAttr,TF]
      refine dm [0,1,7,8] (fun (i:Nat)=>[.vl false 1 (d.texts.map (ai.val false)),.sc (.func (.func 83) #[] #[]),.sc (.int .i64 d.texts.length),.sc (.int .i64 i)]) (fun _=>[some (.row [.sc (.int .i64 s.names),.sc (.int .i64 s.nums),.sc (.int .i64 s.size),.sc (.int .i64 s.texts),.sc (.int .i64 s.raw)] 0 2 95),some (.row [.vl false 1 (d.names.map (aq.val false)),.vl false 1 (d.nums.map (bh.val false)),.vl false 1 (d.texts.map (ai.val false)),.vl false 1 (d.raw.map (aw.val false))] 0 2 47)]) (fun i=>i≤d.texts.length∧(d.texts.any fun x=>decide (255<x.size))=((d.texts.drop i).any fun x=>decide (255<x.size))) (fun i=>d.texts.length - i) 0 ⟨Nat.zero_le _,rfl⟩ (by simp only [↓wR,RA,simprocAttr,TF]<;>rfl) (by simp only [↓wR,RA,simprocAttr,TF]<;>rfl) ?_
      rintro k ⟨hk,hK⟩
      simp only [↓wR,RA,simprocAttr,TF]
      rw [bf];refine ⟨fun h9=>?_,fun h9=>?_⟩
      ·obtain ⟨c,hc,hd1,hlt⟩:=ey (decide_eq_true h9)
       rw [hd1,List.any_cons] at hK
       simp only [↓wR,RA,simprocAttr,TF,h9,hc];repeat (simp (disch:=omega) only [ah,cd,cf,cb,ca];try simp only [↓wR,RA,simprocAttr,TF,h9,hc])
       refine fu (T:=[]) (ak.nil PP) mixed Try.func83 rfl (by kernel_rfl) (by kernel_rfl) (by kernel_rfl) (by kernel_rfl) ?_;unfold Try.f83
       simp only [↓wR,RA,simprocAttr,TF]
       rw [bf];refine ⟨fun h10=>?_,fun h10=>?_⟩
       ·simp only [↓wR,RA,simprocAttr,TF,h10]
        rw [hr,hK,decide_eq_true (show 0<d.texts.length by omega),decide_eq_true (show 255<c.size by omega)];rfl
       ·simp only [↓wR,RA,simprocAttr,TF,h10];repeat (simp (disch:=omega) only [ah,cd,cf,cb,ca];try simp only [↓wR,RA,simprocAttr,TF,h10])
        refine ⟨k+1,⟨hlt,?_⟩,by omega,by (first|rfl|trivial|omega|((try (simp (disch:=omega) only [ah]));(try (simp only [FB]));first|done|rfl|omega))⟩
        rw [hK,decide_eq_false (show ¬ 255<c.size by omega),Bool.false_or]
      ·rw [ij (decide_eq_false h9),List.any_nil] at hK
       simp only [↓wR,RA,simprocAttr,TF,h9]
       rw [hr,hK,decide_eq_true (show 0<d.texts.length by omega)];rfl
     ·simp only [↓wR,RA,simprocAttr,TF,h8]
      rw [hr,decide_eq_false (show ¬ 0<d.texts.length by omega)];rfl
theorem vo (t:UInt16) : 0≤(cg t).size∧(cg t).size≤4:=by
 unfold cg
 repeat' split
 all_goals simp
noncomputable def Fy (x:Shape × UInt16 × au × Unit):Option AV:=if (0≤x.1.size∧x.1.size≤4)∧bg x.2.2.1 then some ((r1 cp).E true (oy x.1 x.2.1 x.2.2.1)) else none
set_option maxRecDepth 2000000 in
theorem ac9 (x:Shape × UInt16 × au × Unit) (r:AV) (h:Fy x=some r):bp PP 55 ((aC qc (aC b9 (aC ag a0))).E x) r:=by
 by_cases hc:(0≤x.1.size∧x.1.size≤4)∧bg x.2.2.1
 case neg=>simp only [Fy,if_neg hc] at h;cases h
 simp only [Fy,if_pos hc] at h
 cases h
 exact az (ak.cons (aj agb) (ak.nil PP)) Try.func55 (by kernel_rfl) (by kernel_rfl) (by kernel_rfl) (Nat.le_of_ble_eq_true (by kernel_rfl)) (r1 cp) true (oy x.1 x.2.1 x.2.2.1) (ak3 x.1 x.2.1 x.2.2.1 hc.1 hc.2)
noncomputable abbrev aos:Nat × Bool × (List AV→M AV):=(55,true,de (aC qc (aC b9 (aC ag a0))) Fy)
theorem Zn {α:Type} {l:List (List α)} {i:Nat} {c:List α} (h:l[i]? = some c):(l.drop i).flatten=c++(l.drop (i+1)).flatten:=by rw [Cp h];rfl
theorem ajt {α:Type} {l:List (List α)} {c:List α} (h:c ∈ l):c.length≤l.flatten.length:=by
 induction l with
 |nil=>cases h
 |cons a l ih=>
  simp only [List.flatten_cons,List.length_append]
  rcases List.mem_cons.1 h with rfl|h
  ·omega
  ·have:=ih h;omega
theorem aeg (l:List (List UInt8)) (hl:l.length≤16777216) (hf:l.flatten.length≤134217728):wl PP [] 0 (Try.f86.body.getD .skip) (dk PP Try.f86.results.toList (fun r st=>(r1 (bw aw)).get false st.h r=some l.flatten)) (cw 0 [(bw (bw aw)).val false l]) (bk []):=by
 unfold Try.f86
 rw [nf]
 simp only [↓wR,RA,simprocAttr,TF]
 refine dm [0,3,9,10,11] (fun (x:Nat × Nat)=>[.vl false 1 (l.map ((bw aw).val false)),.sc (.int .i64 x.2),.vl false 1 (l.map ((bw aw).val false)),.sc (.int .i64 l.length),.sc (.int .i64 x.1)]) (fun _=>[]) (fun x=>x.1≤l.length∧x.2+(l.drop x.1).flatten.length=l.flatten.length) (fun x=>l.length - x.1) (0,0) ⟨Nat.zero_le _,by simp⟩ (by simp only [↓wR,RA,simprocAttr,TF]<;>rfl) (by simp only [↓wR,RA,simprocAttr,TF]<;>rfl) ?_
 rintro ⟨i,k⟩ ⟨hi,hk⟩
 simp only at hi hk
 simp only [↓wR,RA,simprocAttr,TF]
 rw [bf];refine ⟨fun h=>?_,fun h=>?_⟩
 ·obtain ⟨c,hc,hd1,hlt⟩:=ey (decide_eq_true h)
  rw [Zn hc,List.length_append] at hk
  simp only [↓wR,RA,simprocAttr,TF,h,hc];repeat (simp (disch:=omega) only [ah,cd,cf,cb,ca];try simp only [↓wR,RA,simprocAttr,TF,h,hc])
  rw [bf];refine ⟨fun h1=>?_,fun h1=>?_⟩
  ·exfalso;omega
  ·simp only [↓wR,RA,simprocAttr,TF,h1];repeat (simp (disch:=omega) only [ah,cd,cf,cb,ca];try simp only [↓wR,RA,simprocAttr,TF,h1])
   exact ⟨(i+1,k+c.length),⟨hlt,by show k+c.length+(l.drop (i+1)).flatten.length=_;omega⟩,by simp;omega,by simp⟩
 ·rw [ij (decide_eq_false h)] at hk
  have hk:k=l.flatten.length:=by simpa using hk
  subst hk
  simp only [↓wR,RA,simprocAttr,TF,h]
  refine fu (T:=[]) (ak.nil PP) mixed Try.func100 rfl (by kernel_rfl) (by kernel_rfl) (by kernel_rfl) (by kernel_rfl) ?_;unfold Try.f100
  simp only [↓wR,RA,simprocAttr,TF]
  rw [bf];refine ⟨fun h1=>?_,fun h1=>?_⟩
  ·exfalso;omega
  simp only [↓wR,RA,simprocAttr,TF,h1];repeat (simp (disch:=omega) only [ah,cd,cf,cb,ca];try simp only [↓wR,RA,simprocAttr,TF,h1])
  rw [bf];refine ⟨fun h2=>?_,fun h2=>?_⟩
  ·have hpos : 0<l.flatten.length:=by omega
   simp only [↓wR,RA,simprocAttr,TF,h2,hpos];repeat (simp (disch:=omega) only [ah,cd,cf,cb,ca];try simp only [↓wR,RA,simprocAttr,TF,h2,hpos])
   refine dm [25,26,27,6] (fun (x:Nat × Nat × Nat × List UInt8)=>[.vl false 1 (l.map ((bw aw).val false)),.sc (.int .i64 l.length),.sc (.int .i64 x.1),.sl 0 0 x.2.1 1]) (fun x=>[some (.row (x.2.2.2.map (aw.val false)) 0 x.2.2.1 5)]) (fun x=>x.1≤l.length∧(x.2.1=x.2.2.2.length∨x.2.1=0)∧x.2.2.2.take x.2.1++(l.drop x.1).flatten=l.flatten) (fun x=>l.length - x.1) (0,0,0,List.replicate l.flatten.length 0) ⟨Nat.zero_le _,.inr rfl,rfl⟩ (by simp only [↓wR,RA,simprocAttr,TF]<;>rfl) (by simp only [↓wR,RA,simprocAttr,TF]<;>rfl) ?_
   rintro ⟨k,m,s,r⟩ ⟨hk1,hk0,hk3⟩
   simp only at hk1 hk0 hk3
   have hk2:m≤r.length:=by omega
   simp only [↓wR,RA,simprocAttr,TF]
   rw [bf];refine ⟨fun h3=>?_,fun h3=>?_⟩
   ·obtain ⟨c,hc,hd1,hlt⟩:=ey (decide_eq_true h3)
    rw [Zn hc] at hk3
    have hm:m+c.length≤134217728:=by
     have:=congrArg List.length hk3
     simp only [List.length_append,List.length_take] at this
     omega
    simp only [↓wR,RA,simprocAttr,TF,h3,hc,hk2];repeat (simp (disch:=omega) only [ah,cd,cf,cb,ca];try simp only [↓wR,RA,simprocAttr,TF,h3,hc,hk2])
    have hl1:(r.take m++c).length=m+c.length:=by simp [Nat.min_eq_left hk2]
    refine ⟨(k+1,m+c.length,lb (decide (m=r.length)) s,r.take m++c),⟨hlt,.inl hl1.symm,?_⟩,by simp;omega,by simp,by simp⟩
    show (r.take m++c).take (m+c.length)++_=_
    rw [List.take_of_length_le (Nat.le_of_eq hl1),List.append_assoc]
    exact hk3
   ·rw [ij (decide_eq_false h3)] at hk3
    have hmr:m=r.length:=by
     have:=congrArg List.length hk3
     simp only [List.length_append,List.length_take,List.flatten_nil,List.length_nil] at this
     omega
    subst hmr
    have hr:r=l.flatten:=by simpa using hk3
    subst hr
    simp only [↓wR,RA,simprocAttr,TF,h3,hk2];repeat (simp (disch:=omega) only [ah,cd,cf,cb,ca];try simp only [↓wR,RA,simprocAttr,TF,h3,hk2])
  ·have hnil:l.flatten=[]:=List.eq_nil_of_length_eq_zero (by omega)
   simp only [↓wR,RA,simprocAttr,TF,h2];repeat (simp (disch:=omega) only [ah,cd,cf,cb,ca];try simp only [↓wR,RA,simprocAttr,TF,h2])
   refine dm [25,26,27,6] (fun (x:Nat)=>[.vl false 1 (l.map ((bw aw).val false)),.sc (.int .i64 l.length),.sc (.int .i64 x),.sc (.slice none 0 0)]) (fun _=>[]) (fun x=>x≤l.length) (fun x=>l.length - x) 0 (Nat.zero_le _) (by simp only [↓wR,RA,simprocAttr,TF]<;>rfl) (by simp only [↓wR,RA,simprocAttr,TF]<;>rfl) ?_
   intro k hk1
   simp only [↓wR,RA,simprocAttr,TF]
   rw [bf];refine ⟨fun h3=>?_,fun h3=>?_⟩
   ·obtain ⟨c,hc,hd1,hlt⟩:=ey (decide_eq_true h3)
    have hc0:c=[]:=List.eq_nil_of_length_eq_zero (by have:=ajt (List.mem_of_getElem? hc);rw [hnil] at this;simpa using this)
    subst hc0
    simp only [↓wR,RA,simprocAttr,TF,h3,hc];repeat (simp (disch:=omega) only [ah,cd,cf,cb,ca];try simp only [↓wR,RA,simprocAttr,TF,h3,hc])
    refine ⟨k+1,hlt,?_⟩
    first|(refine ⟨by simp;omega,?_⟩;simp)|(simp;omega)
   ·simp only [↓wR,RA,simprocAttr,TF,h3];repeat (simp (disch:=omega) only [ah,cd,cf,cb,ca];try simp only [↓wR,RA,simprocAttr,TF,h3])
    rw [hnil]
noncomputable def wv (x:List (List UInt8) × Unit):Option AV:=if x.1.length≤16777216∧x.1.flatten.length≤134217728 then some ((r1 (bw aw)).E false (x.1.flatten)) else none
set_option maxRecDepth 2000000 in
theorem We (x:List (List UInt8) × Unit) (r:AV) (h:wv x=some r):bp PP 86 ((aC (bw (bw aw)) a0).E x) r:=by
 by_cases hc:x.1.length≤16777216∧x.1.flatten.length≤134217728
 case neg=>simp only [wv,if_neg hc] at h;cases h
 simp only [wv,if_pos hc] at h
 cases h
 exact az (ak.nil PP) Try.func86 (by kernel_rfl) (by kernel_rfl) (by kernel_rfl) (Nat.le_of_ble_eq_true (by kernel_rfl)) (r1 (bw aw)) false (x.1.flatten) (aeg x.1 hc.1 hc.2)
noncomputable abbrev aj6:Nat × Bool × (List AV→M AV):=(86,true,de (aC (bw (bw aw)) a0) wv)
theorem aew (n:Name):(jg n).length≤bj n:=by
 unfold jg nameBytes
 split
 ·exact Nat.zero_le _
 ·have:=qi n;rw [List.length_append];simp only [List.length_cons,List.length_nil];omega
noncomputable def vp (t:UInt16) (n:UInt32):List UInt8:=(u3 n).drop (4 - (cg t).size).toNat
def l8 (t:UInt16):Nat→List ByteArray→List UInt8
 |_,[]=>[]
 |i,x::r=>(if (t.toNat:Int)=16∨i=0 then [UInt8.ofNat x.size] else [])++x.data.toList++l8 t (i+1) r
noncomputable def rp (t:UInt16) (d:au):List UInt8:=d.nums.flatMap (vp t)
def n7 (d:au):List UInt8:=d.names.flatMap jg
def nd (t:UInt16) (d:au):List UInt8:=l8 t 0 d.texts
noncomputable def j8 (t:UInt16) (d:au):List UInt8:=if (t.toNat:Int)=6 then n7 d++rp t d else rp t d++(n7 d++(nd t d++d.raw))
theorem Br (n):(u3 n).length=4:=rfl
theorem Yy {α:Type} (f : α→List UInt8) (μ : α→Nat) (h:∀ x,(f x).length ≤ μ x) (l:List α):(l.flatMap f).length≤jq μ l:=by
 induction l with
 |nil=>simp
 |cons a l ih=>have:=h a;simp only [List.flatMap_cons,List.length_append,jq,List.foldr_cons] at ih ⊢;omega
theorem ac8 (t:UInt16) (l:List ByteArray):∀ i,(l8 t i l).length≤jq ByteArray.size l:=by
 induction l with
 |nil=>intro i;simp [l8]
 |cons a l ih=>
  intro i
  have:=ih (i+1)
  have ha:a.data.size=a.size:=rfl
  simp only [l8,List.length_append,jq,List.foldr_cons,Array.length_toList] at this ⊢
  split<;>simp<;>omega
theorem afg (t d):(rp t d).length≤4 * d.nums.length:=by
 unfold rp
 induction d.nums with
 |nil=>simp
 |cons a l ih=>
  have:(vp t a).length≤4:=by unfold vp;rw [List.length_drop,Br];omega
  simp only [List.flatMap_cons,List.length_append,List.length_cons];omega
theorem bg.written {d:au} (h:bg d) (t):(rp t d).length≤67108864∧(n7 d).length≤16777216∧(nd t d).length≤16777216:=by
 have h1:=afg t d
 have h2:(n7 d).length≤jq bj d.names:=Yy jg bj aew d.names
 have h3:(nd t d).length≤jq ByteArray.size d.texts:=ac8 t d.texts 0
 unfold bg po at h
 omega
theorem vq {α:Type} {l:List α} {i:Nat} {c : α} (f : α→List UInt8) (h:l.drop i=c::l.drop (i+1)):(l.drop i).flatMap f=f c++(l.drop (i+1)).flatMap f:=by rw [h];rfl
theorem Mn (c):(u3 c).take 4=u3 c:=rfl
theorem Hu (t) (c):(u3 c).drop (4 - (cg t).size).toNat=vp t c:=rfl
theorem Qz (t:UInt16) {l:List ByteArray} {i:Nat} {c:ByteArray} (h:l.drop i=c::l.drop (i+1)):l8 t i (l.drop i)=(if (t.toNat:Int)=16∨i=0 then [UInt8.ofNat c.size] else [])++c.data.toList++l8 t (i+1) (l.drop (i+1)):=by rw [h];rfl
theorem ahs (t:UInt16) (d:au) (hd:bg d):wl PP [Nw,amz,abt,aj6] 0 (Try.f56.body.getD .skip) (dk PP Try.f56.results.toList (fun r st=>(r1 (bw aw)).get false st.h r=some (j8 t d))) (cw 0 [b9.val false t,ag.val false d]) (bk []):=by
 have hl:=hd.lens
 have hk:=hd.written t
 have hs:=vo t
 unfold Try.f56
 simp only [dy,cx]
 simp only [↓wR,RA,simprocAttr,TF,Al,Az]
 refine fj [0,3,6,7,8,21,22,23,5] (fun (x:Nat × List UInt8)=>[.sc (.int .u16 t.toNat),.ptr 0 0,.sc (.slice none 0 0),.sc (.slice none 0 0),.ptr 1 0,.vl false 1 (d.nums.map (bh.val false)),.sc (.int .i64 (d.nums.length)),.sc (.int .i64 (x.1)),.sl 2 0 x.2.length 1]) (fun x=>[some (.row [.vl false 1 (d.names.map (aq.val false)),.vl false 1 (d.nums.map (bh.val false)),.vl false 1 (d.texts.map (ai.val false)),.vl false 1 (d.raw.map (aw.val false))] 0 2 47),some (.row [.sc (.int .i64 (cg t).names),.sc (.int .i64 (cg t).nums),.sc (.int .i64 (cg t).size),.sc (.int .i64 (cg t).texts),.sc (.int .i64 (cg t).raw)] 0 2 95),some (.row (x.2.map (aw.val false)) 0 0 5)]) (fun x=>x.1≤d.nums.length∧x.2++(d.nums.drop x.1).flatMap (vp t)=rp t d) (fun x=>d.nums.length - x.1) (0,[]) ⟨Nat.zero_le _,rfl⟩ (by simp only [↓wR,RA,simprocAttr,TF];(refine jl.lax [] (by first|exact Nat.le_of_ble_eq_true rfl|(simp [cy];omega)) ?_ ?_<;>repeat' first|exact dx.nil|exact bt.nil|exact ek.same _|exact ek.nil _ _ _|exact ek.ml _ _|exact bt.refl _ _|apply dx.cons|apply bt.ghost|apply bt.same|apply bt.row)) ?_
 rintro ⟨i,x⟩ ⟨hi,hx⟩
 simp only at hi hx
 simp only [↓wR,RA,simprocAttr,TF]
 rw [bf];refine ⟨fun h=>?_,fun h=>?_⟩
 ·obtain ⟨c,hc,hd1,hlt⟩:=ey (decide_eq_true h)
  rw [vq _ hd1] at hx
  have hxl:x.length+(vp t c).length≤(rp t d).length:=by rw [← hx];simp
  simp only [↓wR,RA,simprocAttr,TF,h,hc,Hv,Br,Mn,Hu];repeat (simp (disch:=omega) only [ah,cd,cf,cb,ca];try simp only [↓wR,RA,simprocAttr,TF,h,hc,Hv,Br,Mn,Hu])
  exact ⟨(i+1,x++vp t c),⟨hlt,by rw [List.append_assoc];exact hx⟩,by simp;omega,by (first|rfl|trivial|omega|((try (simp (disch:=omega) only [ah]));(try (simp only [FB]));first|done|rfl|omega)),by (first|rfl|trivial|omega|((try (simp (disch:=omega) only [ah]));(try (simp only [FB]));first|done|rfl|omega))⟩
 rw [ij (decide_eq_false h)] at hx
 obtain rfl:x=rp t d:=by simpa using hx
 clear hx
 simp only [↓wR,RA,simprocAttr,TF,h]
 obtain ⟨nu,hnu⟩:∃ nu,rp t d=nu:=⟨_,rfl⟩
 rw [hnu] at hk ⊢
 refine fj [0,3,7,38,39,40,5,6] (fun (x:Nat × List UInt8)=>[.sc (.int .u16 t.toNat),.ptr 0 0,.sc (.slice none 0 0),.vl false 1 (d.names.map (aq.val false)),.sc (.int .i64 (d.names.length)),.sc (.int .i64 (x.1)),.sl 1 0 nu.length 1,.sl 2 0 x.2.length 1]) (fun x=>[some (.row [.vl false 1 (d.names.map (aq.val false)),.vl false 1 (d.nums.map (bh.val false)),.vl false 1 (d.texts.map (ai.val false)),.vl false 1 (d.raw.map (aw.val false))] 0 2 47),some (.row (nu.map (aw.val false)) 0 0 5),some (.row (x.2.map (aw.val false)) 0 0 5)]) (fun x=>x.1≤d.names.length∧x.2++(d.names.drop x.1).flatMap jg=n7 d) (fun x=>d.names.length - x.1) (0,[]) ⟨Nat.zero_le _,rfl⟩ (by simp only [↓wR,RA,simprocAttr,TF];(refine jl.lax [] (by first|exact Nat.le_of_ble_eq_true rfl|(simp [cy];omega)) ?_ ?_<;>repeat' first|exact dx.nil|exact bt.nil|exact ek.same _|exact ek.nil _ _ _|exact ek.ml _ _|exact bt.refl _ _|apply dx.cons|apply bt.ghost|apply bt.same|apply bt.row)) ?_
 clear h
 rintro ⟨i,x⟩ ⟨hi,hx⟩
 simp only at hi hx
 simp only [↓wR,RA,simprocAttr,TF]
 rw [bf];refine ⟨fun h=>?_,fun h=>?_⟩
 ·obtain ⟨c,hc,hd1,hlt⟩:=ey (decide_eq_true h)
  rw [vq _ hd1] at hx
  have hxl:x.length+(jg c).length≤(n7 d).length:=by rw [← hx];simp
  simp only [↓wR,RA,simprocAttr,TF,h,hc,qw,hd.name c (List.mem_of_getElem? hc)];repeat (simp (disch:=omega) only [ah,cd,cf,cb,ca];try simp only [↓wR,RA,simprocAttr,TF,h,hc,qw,hd.name c (List.mem_of_getElem? hc)])
  exact ⟨(i+1,x++jg c),⟨hlt,by rw [List.append_assoc];exact hx⟩,by simp;omega,by (first|rfl|trivial|omega|((try (simp (disch:=omega) only [ah]));(try (simp only [FB]));first|done|rfl|omega)),by (first|rfl|trivial|omega|((try (simp (disch:=omega) only [ah]));(try (simp only [FB]));first|done|rfl|omega))⟩
 rw [ij (decide_eq_false h)] at hx
 obtain rfl:x=n7 d:=by simpa using hx
 clear hx
 simp only [↓wR,RA,simprocAttr,TF,h]
 obtain ⟨na,hna⟩:∃ na,n7 d=na:=⟨_,rfl⟩
 rw [hna] at hk ⊢
 refine fj [0,3,54,55,56,5,6,7] (fun (x:Nat × List UInt8)=>[.sc (.int .u16 t.toNat),.ptr 0 0,.vl false 1 (d.texts.map (ai.val false)),.sc (.int .i64 (d.texts.length)),.sc (.int .i64 (x.1)),.sl 1 0 nu.length 1,.sl 2 0 na.length 1,.sl 3 0 x.2.length 1]) (fun x=>[some (.row [.vl false 1 (d.names.map (aq.val false)),.vl false 1 (d.nums.map (bh.val false)),.vl false 1 (d.texts.map (ai.val false)),.vl false 1 (d.raw.map (aw.val false))] 0 2 47),some (.row (nu.map (aw.val false)) 0 0 5),some (.row (na.map (aw.val false)) 0 0 5),some (.row (x.2.map (aw.val false)) 0 0 5)]) (fun x=>x.1≤d.texts.length∧x.2++l8 t x.1 (d.texts.drop x.1)=nd t d) (fun x=>d.texts.length - x.1) (0,[]) ⟨Nat.zero_le _,rfl⟩ (by simp only [↓wR,RA,simprocAttr,TF];(refine jl.lax [] (by first|exact Nat.le_of_ble_eq_true rfl|(simp [cy];omega)) ?_ ?_<;>repeat' first|exact dx.nil|exact bt.nil|exact ek.same _|exact ek.nil _ _ _|exact ek.ml _ _|exact bt.refl _ _|apply dx.cons|apply bt.ghost|apply bt.same|apply bt.row)) ?_
 clear h
 rintro ⟨i,x⟩ ⟨hi,hx⟩
 simp only at hi hx
 simp only [↓wR,RA,simprocAttr,TF]
 rw [bf];refine ⟨fun h=>?_,fun h=>?_⟩
 ·obtain ⟨c,hc,hd1,hlt⟩:=ey (decide_eq_true h)
  rw [Qz _ hd1] at hx
  have hxl:x.length+((if (t.toNat:Int)=16∨i=0 then [UInt8.ofNat c.size] else []).length+c.size)≤(nd t d).length:=by rw [← hx];simp
  have hcs:c.data.toList.length=c.size:=by simp
  simp only [↓wR,RA,simprocAttr,TF,h,hc];repeat (simp (disch:=omega) only [ah,cd,cf,cb,ca];try simp only [↓wR,RA,simprocAttr,TF,h,hc])
  have fin:∀ b:List UInt8,x++(b++c.data.toList++l8 t (i+1) (d.texts.drop (i+1)))=nd t d→x++b++c.data.toList++l8 t (i+1) (d.texts.drop (i+1))=nd t d:=fun b hb=>by rw [← hb];simp
  rw [ct];refine ⟨fun ⟨h16,e16⟩=>?_,fun ⟨h16,e16⟩=>?_⟩
  ·rw [if_pos (.inl e16)] at hx hxl
   simp only [List.length_cons,List.length_nil] at hxl
   simp only [↓wR,RA,simprocAttr,TF,h16];repeat (simp (disch:=omega) only [ah,cd,cf,cb,ca];try simp only [↓wR,RA,simprocAttr,TF,h16])
   exact ⟨(i+1,x++[UInt8.ofNat c.size]++c.data.toList),⟨hlt,fin _ hx⟩,by simp;omega,by (first|rfl|trivial|omega|((try (simp (disch:=omega) only [ah]));(try (simp only [FB]));first|done|rfl|omega)),by (first|rfl|trivial|omega|((try (simp (disch:=omega) only [ah]));(try (simp only [FB]));first|done|rfl|omega))⟩
  ·simp only [↓wR,RA,simprocAttr,TF,h16];repeat (simp (disch:=omega) only [ah,cd,cf,cb,ca];try simp only [↓wR,RA,simprocAttr,TF,h16])
   rw [ct];refine ⟨fun ⟨h0,e0⟩=>?_,fun ⟨h0,e0⟩=>?_⟩
   ·rw [if_pos (.inr (by omega))] at hx hxl
    simp only [List.length_cons,List.length_nil] at hxl
    simp only [↓wR,RA,simprocAttr,TF,h0];repeat (simp (disch:=omega) only [ah,cd,cf,cb,ca];try simp only [↓wR,RA,simprocAttr,TF,h0])
    exact ⟨(i+1,x++[UInt8.ofNat c.size]++c.data.toList),⟨hlt,fin _ hx⟩,by simp;omega,by (first|rfl|trivial|omega|((try (simp (disch:=omega) only [ah]));(try (simp only [FB]));first|done|rfl|omega)),by (first|rfl|trivial|omega|((try (simp (disch:=omega) only [ah]));(try (simp only [FB]));first|done|rfl|omega))⟩
   ·rw [if_neg (by omega)] at hx hxl
    simp only [List.length_nil] at hxl
    simp only [↓wR,RA,simprocAttr,TF,h0];repeat (simp (disch:=omega) only [ah,cd,cf,cb,ca];try simp only [↓wR,RA,simprocAttr,TF,h0])
    exact ⟨(i+1,x++c.data.toList),⟨hlt,by have:=fin _ hx;simpa using this⟩,by simp;omega,by (first|rfl|trivial|omega|((try (simp (disch:=omega) only [ah]));(try (simp only [FB]));first|done|rfl|omega)),by (first|rfl|trivial|omega|((try (simp (disch:=omega) only [ah]));(try (simp only [FB]));first|done|rfl|omega))⟩
 rw [ij (decide_eq_false h)] at hx
 obtain rfl:x=nd t d:=by simpa [l8] using hx
 clear hx
 simp only [↓wR,RA,simprocAttr,TF,h];repeat (simp (disch:=omega) only [ah,cd,cf,cb,ca];try simp only [↓wR,RA,simprocAttr,TF,h])
 unfold j8
 rw [hnu,hna]
 rw [ct];refine ⟨fun ⟨h6,e6⟩=>?_,fun ⟨h6,e6⟩=>?_⟩
 ·rw [if_pos e6]
  simp only [↓wR,RA,simprocAttr,TF,h6];repeat (simp (disch:=omega) only [ah,cd,cf,cb,ca];try simp only [↓wR,RA,simprocAttr,TF,h6])
 ·rw [if_neg e6]
  have hcat:nu.length+(na.length+((nd t d).length+d.raw.length))≤134217728:=by omega
  simp only [↓wR,RA,simprocAttr,TF,h6,wv,hcat];repeat (simp (disch:=omega) only [ah,cd,cf,cb,ca];try simp only [↓wR,RA,simprocAttr,TF,h6,wv,hcat])
  rw [← List.map_append,← List.map_append,← List.map_append]
  exact qv aw false _ false _ _ rfl rfl
noncomputable def qy (x:UInt16 × au × Unit):Option AV:=if bg x.2.1 then some ((r1 (bw aw)).E false (j8 x.1 x.2.1)) else none
set_option maxRecDepth 2000000 in
theorem Bf (x:UInt16 × au × Unit) (r:AV) (h:qy x=some r):bp PP 56 ((aC b9 (aC ag a0)).E x) r:=by
 by_cases hc:bg x.2.1
 case neg=>simp only [qy,if_neg hc] at h;cases h
 simp only [qy,if_pos hc] at h
 cases h
 exact az (ak.cons (aj z6) (ak.cons (aj Xp) (ak.cons (aj Nb) (ak.cons (aj We) (ak.nil PP))))) Try.func56 (by kernel_rfl) (by kernel_rfl) (by kernel_rfl) (Nat.le_of_ble_eq_true (by kernel_rfl)) (r1 (bw aw)) false (j8 x.1 x.2.1) (ahs x.1 x.2.1 hc)
noncomputable abbrev L6:Nat × Bool × (List AV→M AV):=(56,true,de (aC b9 (aC ag a0)) qy)
theorem Yh (d:au) (hd:bg d):wl PP [Tw,Wq,Zs,Au] 0 (Try.f32.body.getD .skip) (dk PP Try.f32.results.toList (fun r st=>(r1 ag).get true st.h r=some d)) (cw 0 [ag.val false d]) (bk []):=by
 have hl:=hd.lens
 have l2:=hl.2.1
 have l3:=hl.2.2.1
 have l4:=hl.2.2.2
 unfold Try.f32
 simp only [dy,cx]
 simp only [↓wR,RA,simprocAttr,TF]
 refine ⟨by kernel_rfl,.inl ?_⟩
 simp only [↓wR,RA,simprocAttr,TF,uo,uv,xi,l2,l3,l4]
 refine ⟨by kernel_rfl,?_⟩
 refine fj [2,17,18,19,3] (fun (x:List Name)=>[.ptr 0 0,.vl false 1 (d.names.map (aq.val false)),.sc (.int .i64 (d.names.length)),.sc (.int .i64 (x.length)),.ptr 1 0]) (fun x=>[some (.row [.sc (.slice none 0 0),.sc (.slice none 0 0),.sc (.slice none 0 0),.sc (.slice none 0 0)] 0 2 47),some (.row [.sl 2 0 x.length 1,.vl true 1 (d.nums.map (bh.val false)),.vl true 1 (d.texts.map (ai.val false)),.vl true 1 (d.raw.map (aw.val false))] 0 2 47),some (.row (x.map (aq.val true)) 0 0 35)]) (fun x=>x.length≤d.names.length∧x++d.names.drop x.length=d.names) (fun x=>d.names.length - x.length) [] ⟨Nat.zero_le _,rfl⟩ (by simp only [↓wR,RA,simprocAttr,TF];(refine jl.lax [] (by first|exact Nat.le_of_ble_eq_true rfl|(simp [cy];omega)) ?_ ?_<;>repeat' first|exact dx.nil|exact bt.nil|exact ek.same _|exact ek.nil _ _ _|exact ek.ml _ _|exact bt.refl _ _|apply dx.cons|apply bt.ghost|apply bt.same|apply bt.row)) ?_
 rintro x ⟨hi,hx⟩
 simp only [↓wR,RA,simprocAttr,TF]
 rw [bf];refine ⟨fun h=>?_,fun h=>?_⟩
 ·obtain ⟨c,hc,hd1,hlt⟩:=ey (decide_eq_true h)
  rw [hd1] at hx
  have hlim:(x.length+1) * 24≤140737488355328:=by omega
  simp only [↓wR,RA,simprocAttr,TF,h,hc]
  refine ⟨by kernel_rfl,.inl ?_⟩
  simp only [↓wR,RA,simprocAttr,TF,m4,hd.name c (List.mem_of_getElem? hc),hlim]
  refine ⟨by kernel_rfl,?_⟩
  exact ⟨x++[c],⟨by simp;omega,by simpa using hx⟩,by simp;omega,by (first|rfl|trivial|omega|((try (simp (disch:=omega) only [ah]));(try (simp only [FB]));first|done|rfl|omega)),by (first|rfl|trivial|omega|((try (simp (disch:=omega) only [ah]));(try (simp only [FB]));first|done|rfl|omega))⟩
 ·rw [ij (decide_eq_false h)] at hx
  rw [List.append_nil] at hx
  subst hx
  simp only [↓wR,RA,simprocAttr,TF,h]
noncomputable def ny (x:au × Unit):Option AV:=if bg x.1 then some ((r1 ag).E true (x.1)) else none
set_option maxRecDepth 2000000 in
theorem tr (x:au × Unit) (r:AV) (h:ny x=some r):bp PP 32 ((aC ag a0).E x) r:=by
 by_cases hc:bg x.1
 case neg=>simp only [ny,if_neg hc] at h;cases h
 simp only [ny,if_pos hc] at h
 cases h
 exact az (ak.cons (aj E7) (ak.cons (aj E3) (ak.cons (aj F0) (ak.cons (aj qk) (ak.nil PP))))) Try.func32 (by kernel_rfl) (by kernel_rfl) (by kernel_rfl) (Nat.le_of_ble_eq_true (by kernel_rfl)) (r1 ag) true (x.1) (Yh x.1 hc)
noncomputable abbrev Ec:Nat × Bool × (List AV→M AV):=(32,true,de (aC ag a0) ny)
def m9 {α:Type} (f : α → α) (l:List α) (i:Nat):List α:=(l.take i).map f++l.drop i
theorem abq {α:Type} (f : α → α) (l:List α) (i:Nat):(m9 f l i).length=l.length:=by simp [m9];omega
theorem ac3 {α:Type} (f : α → α) {l:List α} {i:Nat} {c : α} (h:l[i]? = some c):(m9 f l i)[i]? = some c:=by
 obtain ⟨hi,rfl⟩:=List.getElem?_eq_some_iff.1 h
 have hl:((l.take i).map f).length=i:=by simp;omega
 rw [m9,List.getElem?_append_right (by omega),hl,Nat.sub_self,List.getElem?_drop];simp [h]
theorem acf {α:Type} (f : α → α) {l:List α} {i:Nat} {c : α} (h:l[i]? = some c):(m9 f l i).take i++[f c]++(m9 f l i).drop (i+1)=m9 f l (i+1):=by
 obtain ⟨hi,rfl⟩:=List.getElem?_eq_some_iff.1 h
 have h1:((l.take i).map f).length=i:=by simp;omega
 have h2:(m9 f l i).take i=(l.take i).map f:=by rw [m9,List.take_append_of_le_length (by omega),List.take_of_length_le (by omega)]
 have h3:(m9 f l i).drop (i+1)=l.drop (i+1):=by
  rw [m9,List.drop_append,List.drop_eq_nil_of_le (by omega),h1]
  simp
 rw [h2,h3,m9,List.take_succ_eq_append_getElem hi,List.map_append]
 rfl
theorem abv {α:Type} (f : α → α) (l:List α):m9 f l l.length=l.map f:=by simp [m9]
noncomputable def gm (t:UInt16) (d:au):au:=if 0<(cg t).names then { d with names:=d.names.map gb } else d
theorem Yi (t:UInt16) (d:au) (hd:bg d):wl PP [Nw,ag5] 0 (Try.f77.body.getD .skip) (dk PP Try.f77.results.toList (fun r st=>(r1 ag).get true st.h r=some (gm t d))) (cw 0 [b9.val false t,ag.val false d]) (bk []):=by
 have hl:=hd.lens
 have l2:=hl.2.1
 have l3:=hl.2.2.1
 have l4:=hl.2.2.2
 unfold Try.f77
 simp only [dy,cx]
 simp only [↓wR,RA,simprocAttr,TF]
 refine fu (T:=[Tw,Wq,Zs,Au]) (ak.cons (aj E7) (ak.cons (aj E3) (ak.cons (aj F0) (ak.cons (aj qk) (ak.nil PP))))) mixed Try.func32 rfl (by kernel_rfl) (by kernel_rfl) (by kernel_rfl) (by kernel_rfl) ?_;unfold Try.f32
 simp only [↓wR,RA,simprocAttr,TF]
 refine ⟨by kernel_rfl,.inl ?_⟩
 simp only [↓wR,RA,simprocAttr,TF,uo,uv,xi,l2,l3,l4]
 refine ⟨by kernel_rfl,?_⟩
 refine fj [2,17,18,19,3] (fun (x:List Name)=>[.ptr 2 0,.vl false 1 (d.names.map (aq.val false)),.sc (.int .i64 (d.names.length)),.sc (.int .i64 (x.length)),.ptr 3 0]) (fun x=>[some (.row [.vl false 1 (d.names.map (aq.val false)),.vl false 1 (d.nums.map (bh.val false)),.vl false 1 (d.texts.map (ai.val false)),.vl false 1 (d.raw.map (aw.val false))] 0 2 47),some (.row [.sc (.slice none 0 0),.sc (.slice none 0 0),.sc (.slice none 0 0),.sc (.slice none 0 0)] 0 2 47),some (.row [.sc (.slice none 0 0),.sc (.slice none 0 0),.sc (.slice none 0 0),.sc (.slice none 0 0)] 0 2 47),some (.row [.sl 4 0 x.length 1,.vl true 1 (d.nums.map (bh.val false)),.vl true 1 (d.texts.map (ai.val false)),.vl true 1 (d.raw.map (aw.val false))] 0 2 47),some (.row (x.map (aq.val true)) 0 0 35)]) (fun x=>x.length≤d.names.length∧x++d.names.drop x.length=d.names) (fun x=>d.names.length - x.length) [] ⟨Nat.zero_le _,rfl⟩ (by simp only [↓wR,RA,simprocAttr,TF];(refine jl.lax [] (by first|exact Nat.le_of_ble_eq_true rfl|(simp [cy];omega)) ?_ ?_<;>repeat' first|exact dx.nil|exact bt.nil|exact ek.same _|exact ek.nil _ _ _|exact ek.ml _ _|exact bt.refl _ _|apply dx.cons|apply bt.ghost|apply bt.same|apply bt.row)) ?_
 rintro x ⟨hi,hx⟩
 simp only [↓wR,RA,simprocAttr,TF]
 rw [bf];refine ⟨fun h=>?_,fun h=>?_⟩
 ·obtain ⟨c,hc,hd1,hlt⟩:=ey (decide_eq_true h)
  rw [hd1] at hx
  have hlim:(x.length+1) * 24≤140737488355328:=by omega
  simp only [↓wR,RA,simprocAttr,TF,h,hc]
  refine ⟨by kernel_rfl,.inl ?_⟩
  simp only [↓wR,RA,simprocAttr,TF,m4,hd.name c (List.mem_of_getElem? hc),hlim]
  refine ⟨by kernel_rfl,?_⟩
  exact ⟨x++[c],⟨by simp;omega,by simpa using hx⟩,by simp;omega,by (first|rfl|trivial|omega|((try (simp (disch:=omega) only [ah]));(try (simp only [FB]));first|done|rfl|omega)),by (first|rfl|trivial|omega|((try (simp (disch:=omega) only [ah]));(try (simp only [FB]));first|done|rfl|omega))⟩
 rw [ij (decide_eq_false h)] at hx
 rw [List.append_nil] at hx
 subst hx
 simp only [↓wR,RA,simprocAttr,TF,h,Al,Az]
 unfold gm
 clear hi h
 rw [bf];refine ⟨fun h0=>?_,fun h0=>?_⟩
 ·rw [if_pos h0]
  simp only [↓wR,RA,simprocAttr,TF,h0]
  refine dm [4,5,15,16,17] (fun (i:Nat)=>[.ptr 0 0,.ptr 1 0,.sl 2 0 d.names.length 1,.sc (.int .i64 (d.names.length)),.sc (.int .i64 (i))]) (fun i=>[some (.row [.sc (.slice none 0 0),.sc (.slice none 0 0),.sc (.slice none 0 0),.sc (.slice none 0 0)] 0 2 47),some (.row [.sl 2 0 d.names.length 1,.vl true 1 (d.nums.map (bh.val false)),.vl true 1 (d.texts.map (ai.val false)),.vl true 1 (d.raw.map (aw.val false))] 0 2 47),some (.row ((m9 gb d.names i).map (aq.val true)) 0 0 35)]) (fun i=>i≤d.names.length) (fun i=>d.names.length - i) 0 (Nat.zero_le _) (by simp only [↓wR,RA,simprocAttr,TF]<;>rfl) (by simp only [↓wR,RA,simprocAttr,TF]<;>rfl) ?_
  intro i hi
  simp only [↓wR,RA,simprocAttr,TF]
  rw [bf];refine ⟨fun h=>?_,fun h=>?_⟩
  ·obtain ⟨c,hc,hd1,hlt⟩:=ey (decide_eq_true h)
   have hs:=ac3 gb hc
   have hlen:=abq gb d.names i
   have hlt':i+1≤d.names.length:=hlt
   simp only [↓wR,RA,simprocAttr,TF,h,hs,hlt]
   refine ⟨by kernel_rfl,.inl ?_⟩
   simp only [↓wR,RA,simprocAttr,TF,h,hlt,hlt',hlen,x8,hd.name c (List.mem_of_getElem? hc)]
   refine ⟨by kernel_rfl,i+1,hlt,by omega,by (first|rfl|trivial|omega|((try (simp (disch:=omega) only [ah]));(try (simp only [FB]));first|done|rfl|omega)),?_⟩
   rw [← acf gb hc];simp only [List.map_append,List.map_cons,List.map_nil]
  ·have hin:i=d.names.length:=by omega
   subst hin
   rw [abv]
   have hml:(d.names.map gb).length=d.names.length:=List.length_map _
   generalize d.names.map gb=m at hml ⊢
   simp only [↓wR,RA,simprocAttr,TF,h,hml]
   rfl
 ·rw [if_neg h0]
  simp only [↓wR,RA,simprocAttr,TF,h0]
noncomputable def xz (x:UInt16 × au × Unit):Option AV:=if bg x.2.1 then some ((r1 ag).E true (gm x.1 x.2.1)) else none
set_option maxRecDepth 2000000 in
theorem Sh (x:UInt16 × au × Unit) (r:AV) (h:xz x=some r):bp PP 77 ((aC b9 (aC ag a0)).E x) r:=by
 by_cases hc:bg x.2.1
 case neg=>simp only [xz,if_neg hc] at h;cases h
 simp only [xz,if_pos hc] at h
 cases h
 exact az (ak.cons (aj z6) (ak.cons (aj Rt) (ak.nil PP))) Try.func77 (by kernel_rfl) (by kernel_rfl) (by kernel_rfl) (Nat.le_of_ble_eq_true (by kernel_rfl)) (r1 ag) true (gm x.1 x.2.1) (Yi x.1 x.2.1 hc)
noncomputable abbrev aid:Nat × Bool × (List AV→M AV):=(77,true,de (aC b9 (aC ag a0)) xz)
def jd:List Name→Int
 | []=>0
 |n::r=>if db n≠0 then db n else jd r
noncomputable def c9 (t:UInt16) (d:au):Int:=
 if kg t=true then 6 else if oy (cg t) t d=false then 7 else if jd d.names≠0 then jd d.names else if 65535<(j8 t d).length then 3 else 0
theorem Jd {l:List Name} {i:Nat} {c:Name} (h:l.drop i=c::l.drop (i+1)):jd (l.drop i)=if db c≠0 then db c else jd (l.drop (i+1)):=by rw [h];rfl
theorem V9 (t:UInt16) (d:au) (hd:bg d):wl PP [ane,Nw,aos,Gv,L6] 0 (Try.f28.body.getD .skip) (dk PP Try.f28.results.toList (fun r st=>(r1 (bz .i64)).get true st.h r=some (c9 t d))) (cw 0 [b9.val false t,ag.val false d]) (bk []):=by
 have hs:=vo t
 have hl:=hd.lens
 unfold Try.f28
 simp only [dy,cx]
 simp only [↓wR,RA,simprocAttr,TF,O1]
 unfold c9
 rw [fe];refine ⟨fun hb=>?_,fun hb=>?_⟩
 ·rw [if_pos hb]
  simp only [↓wR,RA,simprocAttr,TF,hb]
 rw [if_neg (by rw [hb];decide)]
 simp only [↓wR,RA,simprocAttr,TF,hb]
 refine ⟨by kernel_rfl,.inl ?_⟩
 simp only [↓wR,RA,simprocAttr,TF,Al,Fy,hs,hd]
 refine ⟨by kernel_rfl,?_⟩
 rw [fe];refine ⟨fun hf=>?_,fun hf=>?_⟩
 ·rw [if_pos (by simpa using hf)]
  simp only [↓wR,RA,simprocAttr,TF,hf]
 have hf':oy (cg t) t d=true:=by simpa using hf
 rw [if_neg (by rw [hf'];decide)]
 simp only [↓wR,RA,simprocAttr,TF,hf]
 refine dm [0,3,17,18,19] (fun (i:Nat)=>[.sc (.int .u16 t.toNat),.ptr 0 0,.vl false 1 (d.names.map (aq.val false)),.sc (.int .i64 (d.names.length)),.sc (.int .i64 (i))]) (fun _=>[some (.row [.vl false 1 (d.names.map (aq.val false)),.vl false 1 (d.nums.map (bh.val false)),.vl false 1 (d.texts.map (ai.val false)),.vl false 1 (d.raw.map (aw.val false))] 0 2 47)]) (fun i=>i≤d.names.length∧jd d.names=jd (d.names.drop i)) (fun i=>d.names.length - i) 0 ⟨Nat.zero_le _,rfl⟩ (by simp only [↓wR,RA,simprocAttr,TF]<;>rfl) (by simp only [↓wR,RA,simprocAttr,TF]<;>rfl) ?_
 rintro i ⟨hi,hx⟩
 simp only [↓wR,RA,simprocAttr,TF]
 rw [bf];refine ⟨fun h=>?_,fun h=>?_⟩
 ·obtain ⟨c,hc,hd1,hlt⟩:=ey (decide_eq_true h)
  rw [Jd hd1] at hx
  simp only [↓wR,RA,simprocAttr,TF,h,hc,pz,(hd.name c (List.mem_of_getElem? hc)).fit]
  rw [fe];refine ⟨fun h1=>?_,fun h1=>?_⟩
  ·have he:db c≠0:=by simpa using h1
   rw [if_pos he] at hx
   rw [if_pos (by rw [hx];exact he),hx]
   simp only [↓wR,RA,simprocAttr,TF,h1]
  ·have he:db c=0:=by simpa using h1
   rw [if_neg (by omega)] at hx
   simp only [↓wR,RA,simprocAttr,TF,h1];repeat (simp (disch:=omega) only [ah,cd,cf,cb,ca];try simp only [↓wR,RA,simprocAttr,TF,h1])
   exact ⟨i+1,⟨hlt,hx⟩,by omega,by (first|rfl|trivial|omega|((try (simp (disch:=omega) only [ah]));(try (simp only [FB]));first|done|rfl|omega))⟩
 rw [ij (decide_eq_false h)] at hx
 rw [if_neg (by rw [hx];decide)]
 simp only [↓wR,RA,simprocAttr,TF,h,qy,hd]
 rw [bf];refine ⟨fun h2=>?_,fun h2=>?_⟩
 ·rw [if_pos (by omega)]
  simp only [↓wR,RA,simprocAttr,TF,h2]
 ·rw [if_neg (by omega)]
  simp only [↓wR,RA,simprocAttr,TF,h2]
noncomputable def lx (x:UInt16 × au × Unit):Option AV:=if bg x.2.1 then some ((r1 (bz .i64)).E true (c9 x.1 x.2.1)) else none
set_option maxRecDepth 2000000 in
theorem pn (x:UInt16 × au × Unit) (r:AV) (h:lx x=some r):bp PP 28 ((aC b9 (aC ag a0)).E x) r:=by
 by_cases hc:bg x.2.1
 case neg=>simp only [lx,if_neg hc] at h;cases h
 simp only [lx,if_pos hc] at h
 cases h
 exact az (ak.cons (aj Yd) (ak.cons (aj z6) (ak.cons (aj ac9) (ak.cons (aj wi) (ak.cons (aj Bf) (ak.nil PP)))))) Try.func28 (by kernel_rfl) (by kernel_rfl) (by kernel_rfl) (Nat.le_of_ble_eq_true (by kernel_rfl)) (r1 (bz .i64)) true (c9 x.1 x.2.1) (V9 x.1 x.2.1 hc)
noncomputable abbrev yc:Nat × Bool × (List AV→M AV):=(28,true,de (aC b9 (aC ag a0)) lx)
noncomputable def ky (t:UInt16) (d:au):List UInt8:=if c9 t d≠0 then [] else j8 t d
theorem Wp (t:UInt16) (d:au) (hd:bg d):wl PP [yc,L6] 0 (Try.f76.body.getD .skip) (dk PP Try.f76.results.toList (fun r st=>(r2 (bw aw) (bz .i64)).get false st.h r=some (ky t d,c9 t d))) (cw 0 [b9.val false t,ag.val false d]) (bk []):=by
 unfold Try.f76
 simp only [dy,cx]
 simp only [↓wR,RA,simprocAttr,TF,lx,hd]
 unfold ky
 rw [fe];refine ⟨fun h=>?_,fun h=>?_⟩
 ·have he:c9 t d≠0:=by simpa using h
  rw [if_pos he]
  simp only [↓wR,RA,simprocAttr,TF,h]
 ·have he:c9 t d=0:=by simpa using h
  rw [if_neg (by omega)]
  simp only [↓wR,RA,simprocAttr,TF,h,qy,hd,he]
noncomputable def u4 (x:UInt16 × au × Unit):Option AV:=if bg x.2.1 then some ((r2 (bw aw) (bz .i64)).E false ((ky x.1 x.2.1,c9 x.1 x.2.1))) else none
set_option maxRecDepth 2000000 in
theorem O7 (x:UInt16 × au × Unit) (r:AV) (h:u4 x=some r):bp PP 76 ((aC b9 (aC ag a0)).E x) r:=by
 by_cases hc:bg x.2.1
 case neg=>simp only [u4,if_neg hc] at h;cases h
 simp only [u4,if_pos hc] at h
 cases h
 exact az (ak.cons (aj pn) (ak.cons (aj Bf) (ak.nil PP))) Try.func76 (by kernel_rfl) (by kernel_rfl) (by kernel_rfl) (Nat.le_of_ble_eq_true (by kernel_rfl)) (r2 (bw aw) (bz .i64)) false ((ky x.1 x.2.1,c9 x.1 x.2.1)) (Wp x.1 x.2.1 hc)
noncomputable abbrev adk:Nat × Bool × (List AV→M AV):=(76,true,de (aC b9 (aC ag a0)) u4)
theorem af3 (args:List AV):Bu PP 95 args (Cx.lh args):=
 Cx.F7 (fn:=(PP.funcs[95]?).getD default) (by kernel_rfl) (by kernel_rfl) (by kernel_rfl) (by kernel_rfl) (by kernel_rfl) args
noncomputable abbrev amw:Nat × Bool × (List AV→M AV):=(95,true,Cx.lh)
theorem ak7:ak PP [amw]:=ak.cons af3 (ak.nil PP)
noncomputable def D3 (a b:List UInt8):Int:=Lib.compareBytes a b
theorem Lg (a b:List UInt8):wl PP [amw] 0 (Try.f78.body.getD .skip) (dk PP Try.f78.results.toList (fun r st=>(r1 (bz .i64)).get true st.h r=some (D3 a b))) (cw 0 [(bw aw).val false a,(bw aw).val false b]) (bk []):=by
 unfold Try.f78
 simp only [nf]
 simp only [↓wR,RA,simprocAttr,TF,D3]
noncomputable def tj (x:List UInt8 × List UInt8 × Unit):Option AV:=some ((r1 (bz .i64)).E true (D3 x.1 x.2.1))
theorem Ic (x:List UInt8 × List UInt8 × Unit) (r:AV) (h:tj x=some r):bp PP 78 ((aC (bw aw) (aC (bw aw) a0)).E x) r:=by
 cases h
 exact az ak7 Try.func78 (by kernel_rfl) (by kernel_rfl) (by kernel_rfl) (Nat.le_of_ble_eq_true (by kernel_rfl)) (r1 (bz .i64)) true (D3 x.1 x.2.1) (Lg x.1 x.2.1)
noncomputable abbrev Vz:Nat × Bool × (List AV→M AV):=(78,true,de (aC (bw aw) (aC (bw aw) a0)) tj)
theorem Q6 (s:ByteArray):(fold s).size=s.size:=by
 show (s.data.toList.map low).toArray.size=s.data.size
 simp
theorem xj (n:Name):bj (gb n)=bj n:=by
 unfold bj gb
 rw [List.foldl_map]
 simp only [Q6]
theorem adh (l:List Name):jq bj (l.map gb)=jq bj l:=by
 induction l with
 |nil=>rfl
 |cons a l ih=>simp only [jq,List.map_cons,List.foldr_cons,xj] at ih ⊢;rw [ih]
theorem bg.fold {d:au} (h:bg d) (t:UInt16):bg (gm t d):=by
 unfold gm
 split
 ·unfold bg po at *
  simp only [adh];exact h
 ·exact h
noncomputable def sm (t:UInt16) (a b:au):Int:=if c9 t (gm t a)≠0∨c9 t (gm t b)≠0 then 0 else D3 (ky t (gm t a)) (ky t (gm t b))
noncomputable def tm (t:UInt16) (a b:au):Bool:=decide (c9 t a=0) && decide (c9 t b=0) && decide (sm t a b=0)
theorem N9 (t:UInt16) (a b:au) (ha:bg a) (hb:bg b):wl PP [aid,adk,Vz] 0 (Try.f46.body.getD .skip) (dk PP Try.f46.results.toList (fun r st=>(r1 (bz .i64)).get true st.h r=some (sm t a b))) (cw 0 [b9.val false t,ag.val false a,ag.val false b]) (bk []):=by
 have fa:=ha.fold t
 have fb:=hb.fold t
 unfold Try.f46
 simp only [dy,cx]
 simp only [↓wR,RA,simprocAttr,TF,xz,u4,tj,ha,hb,fa,fb]
 unfold sm
 rw [fe];refine ⟨fun h=>?_,fun h=>?_⟩
 ·have he:c9 t (gm t a)≠0:=by simpa using h
  rw [if_pos (.inl he)]
  simp only [↓wR,RA,simprocAttr,TF,h]
 have he:c9 t (gm t a)=0:=by simpa using h
 simp only [↓wR,RA,simprocAttr,TF,h]
 rw [fe];refine ⟨fun h2=>?_,fun h2=>?_⟩
 ·have he2:c9 t (gm t b)≠0:=by simpa using h2
  rw [if_pos (.inr he2)]
  simp only [↓wR,RA,simprocAttr,TF,h2]
 ·have he2:c9 t (gm t b)=0:=by simpa using h2
  rw [if_neg (by omega)]
  simp only [↓wR,RA,simprocAttr,TF,h2,tj]
noncomputable def pc (x:UInt16 × au × au × Unit):Option AV:=if bg x.2.1∧bg x.2.2.1 then some ((r1 (bz .i64)).E true (sm x.1 x.2.1 x.2.2.1)) else none
set_option maxRecDepth 2000000 in
theorem Ac (x:UInt16 × au × au × Unit) (r:AV) (h:pc x=some r):bp PP 46 ((aC b9 (aC ag (aC ag a0))).E x) r:=by
 by_cases hc:bg x.2.1∧bg x.2.2.1
 case neg=>simp only [pc,if_neg hc] at h;cases h
 simp only [pc,if_pos hc] at h
 cases h
 exact az (ak.cons (aj Sh) (ak.cons (aj O7) (ak.cons (aj Ic) (ak.nil PP)))) Try.func46 (by kernel_rfl) (by kernel_rfl) (by kernel_rfl) (Nat.le_of_ble_eq_true (by kernel_rfl)) (r1 (bz .i64)) true (sm x.1 x.2.1 x.2.2.1) (N9 x.1 x.2.1 x.2.2.1 hc.1 hc.2)
noncomputable abbrev Jr:Nat × Bool × (List AV→M AV):=(46,true,de (aC b9 (aC ag (aC ag a0))) pc)
theorem X9 (t:UInt16) (a b:au) (ha:bg a) (hb:bg b):wl PP [yc,Jr] 0 (Try.f63.body.getD .skip) (dk PP Try.f63.results.toList (fun r st=>(r1 cp).get true st.h r=some (tm t a b))) (cw 0 [b9.val false t,ag.val false a,ag.val false b]) (bk []):=by
 unfold Try.f63
 simp only [dy,cx]
 simp only [↓wR,RA,simprocAttr,TF,lx,ha,hb]
 unfold tm
 rw [ct];refine ⟨fun ⟨h,e⟩=>?_,fun ⟨h,e⟩=>?_⟩
 ·rw [decide_eq_true e]
  simp only [↓wR,RA,simprocAttr,TF,h,lx,ha,hb]
  rw [ct];refine ⟨fun ⟨h2,e2⟩=>?_,fun ⟨h2,e2⟩=>?_⟩
  ·rw [decide_eq_true e2]
   simp only [↓wR,RA,simprocAttr,TF,h2,pc,ha,hb]
   rfl
  ·rw [decide_eq_false e2]
   simp only [↓wR,RA,simprocAttr,TF,h2]
   rfl
 ·rw [decide_eq_false e]
  simp only [↓wR,RA,simprocAttr,TF,h]
  rfl
noncomputable def x7 (x:UInt16 × au × au × Unit):Option AV:=if bg x.2.1∧bg x.2.2.1 then some ((r1 cp).E true (tm x.1 x.2.1 x.2.2.1)) else none
set_option maxRecDepth 2000000 in
theorem Rs (x:UInt16 × au × au × Unit) (r:AV) (h:x7 x=some r):bp PP 63 ((aC b9 (aC ag (aC ag a0))).E x) r:=by
 by_cases hc:bg x.2.1∧bg x.2.2.1
 case neg=>simp only [x7,if_neg hc] at h;cases h
 simp only [x7,if_pos hc] at h
 cases h
 exact az (ak.cons (aj pn) (ak.cons (aj Ac) (ak.nil PP))) Try.func63 (by kernel_rfl) (by kernel_rfl) (by kernel_rfl) (Nat.le_of_ble_eq_true (by kernel_rfl)) (r1 cp) true (tm x.1 x.2.1 x.2.2.1) (X9 x.1 x.2.1 x.2.2.1 hc.1 hc.2)
noncomputable abbrev aiq:Nat × Bool × (List AV→M AV):=(63,true,de (aC b9 (aC ag (aC ag a0))) x7)
end Go.Proofs.Ytgencolcibpcaaa
end
section
set_option maxRecDepth 100000
namespace Go.Vm
variable [TK]
noncomputable section
theorem Nr {α:Type} (C:cq α) (fr:Bool) (h:Tr ay) (l:List AV) (ha:C.agg=true):C.dec fr h l=C.fw fr h (.agg l):=by
 rw [Ap _ _ _ _ rfl (by rw [ha];rfl)];rfl
theorem ame {α β:Type} (A:cq α) (B:cq β) (fr:Bool) (h:Tr ay) (l:List AV):(js A B).dec fr h l=match A.dec fr h (l.take A.sz),B.dec fr h (l.drop A.sz) with|some x,some y=>some (x,y)|_,_=>none:=rfl
theorem ajf {α:Type} (C:cq α) (fr h) (x:AV):(bw C).dec fr h [x]=gp C fr h x:=rfl
theorem ai1 (fr h) (x:AV):aq.dec fr h [x]=gp ai fr h x:=rfl
def uf (n:Nat) (r:AV) (st:St):List Nat:=reach st.h ef (r.names++ll st.h (dh 0 n)) (dh 0 n)
def Bp (n:Nat) (r:AV) (st:St):AV:=r.cr (fun o=>idx (uf n r st) o 0)
def yw (n:Nat) (r:AV) (st:St):St:=bk (gj st.h (fun o=>idx (uf n r st) o 0) (uf n r st))
theorem Y5 {g g':Gh} {st st':St} {w w':World} {r:AV} {v:Value} (hn:st.nx≤1000) (hfr:∀ o,st.nx≤o→g.inj o=none) (hs:Step g st.h w st.nx st'.nx g' st'.h w') (hok:Ok g' st'.h w') (hr:Rel g' w' r v) :
 ∃ g'',st.nx≤(yw st.nx r st').nx∧Step g st.h w st.nx (yw st.nx r st').nx g'' (yw st.nx r st').h w'∧Ok g'' (yw st.nx r st').h w'∧Rel g'' w' (Bp st.nx r st') v:=by
 have hN:=ur st'.h ef (r.names++ll st'.h (dh 0 st.nx)) (dh 0 st.nx) (ng _ _)
 change (uf st.nx r st').Nodup∧(∃ q,uf st.nx r st'=dh 0 st.nx++q)∧(uf st.nx r st').length≤_ at hN
 have hτ:∀ o p,(fun o=>idx (uf st.nx r st') o 0) o=some p→(uf st.nx r st')[p]? = some o:=fun o p h=>zz _ o p h
 unfold yw Bp
 generalize uf st.nx r st'=N at hN hτ
 obtain ⟨hnd,⟨rest,hpre⟩,hlen⟩:=hN
 rw [ic] at hlen
 have hlim:N.length≤cy:=by simp only [ef,cy] at *;omega
 have dg:∀ i x,(bk (gj st'.h (fun o=>idx N o 0) N)).h.get i=some x→∃ o y,N[i]? = some o∧st'.h.get o=some y∧y.cr (fun o=>idx N o 0)=some x:=by
  intro i x hx
  simp only [bk] at hx
  rw [pq _ _ _ (by rw [fo];omega),if_pos (Nat.zero_le _),Nat.sub_zero,qd] at hx
  cases hi:N[i]? with
  |none=>rw [hi] at hx;cases hx
  |some o=>
   rw [hi] at hx
   simp only [Option.map_some,Option.join_some] at hx
   cases hy:st'.h.get o with
   |none=>rw [hy] at hx;cases hx
   |some y=>rw [hy] at hx;exact ⟨o,y,rfl,hy,hx⟩
 have hinj:∀ i o,N[i]? = some o→(g'.cr N).inj i=g'.inj o:=fun i o h=>by simp [Gh.cr,h]
 have hlow:∀ o,o<st.nx→N[o]? = some o:=fun o ho=>by rw [hpre,List.getElem?_append_left (by rw [ic];exact ho),zg _ _ _ ho,Nat.zero_add]
 have hnx:(bk (gj st'.h (fun o=>idx N o 0) N)).nx=N.length:=by simp only [bk,fo]
 have hle:st.nx≤N.length:=by rw [hpre,List.length_append,ic];omega
 rw [hnx]
 refine ⟨g'.cr N,hle,⟨⟨hs.ext.b0,fun o p ho=>?_,hs.ext.K,hs.ext.cell,hs.ext.ja,hs.ext.lp,hs.ext.whole⟩,hs.size,hs.os,hs.tape,hs.output,hs.frame,fun o ho hr=>?_,fun i b base hi hj=>?_,hs.lz⟩,⟨hok.size,fun i x hx=>?_,fun i j x y b base base' hij hx hy hb hb'=>?_,hok.K⟩,hr.cr hτ⟩
 ·have hlt:o<st.nx:=by
   rcases Nat.lt_or_ge o st.nx with h|h
   ·exact h
   ·rw [hfr o h] at ho;cases ho
  rw [hinj o o (hlow o hlt)];exact hs.ext.inj o p ho
 ·rcases Nat.lt_or_ge o st.nx with h|h
  ·rw [hinj o o (hlow o h)];exact hs.fresh o ho (by omega)
  ·simp [Gh.cr,List.getElem?_eq_none (show N.length≤o by omega)]
 ·obtain ⟨x,hx⟩:=Option.isSome_iff_exists.1 hi
  obtain ⟨o,y,h1,h2,_⟩:=dg i x hx
  rw [hinj i o h1] at hj
  exact hs.own o b base (by rw [h2];rfl) hj
 ·obtain ⟨o,y,h1,h2,h3⟩:=dg i x hx
  refine (hok.lr o y h2).imp (fun q=>⟨by rw [hinj i o h1];exact q.1,by obtain ⟨s0,e0,rfl⟩:=q.2;simp only [ay.cr,AV.cr.go,Option.some.injEq] at h3;exact ⟨s0,e0,h3.symm⟩⟩) ?_
  rintro ⟨b,base,q1,q2,q3⟩
  exact ⟨b,base,by rw [hinj i o h1];exact q1,q2,q3.cr hτ h3⟩
 ·obtain ⟨o,y1,h1,h2,_⟩:=dg i x hx
  obtain ⟨o',y2,h1',h2',_⟩:=dg j y hy
  rw [hinj i o h1] at hb
  rw [hinj j o' h1'] at hb'
  have hne:o≠o':=by
   intro e
   subst e
   obtain ⟨hi,ei⟩:=List.getElem?_eq_some_iff.1 h1
   obtain ⟨hj,ej⟩:=List.getElem?_eq_some_iff.1 h1'
   exact hij ((List.getElem_inj hnd).1 (ei.trans ej.symm))
  exact hok.sep o o' _ _ b base base' hne h2 h2' hb hb'
theorem m5 {P:Program} {f:Nat} {args:List AV} {st:St} {R:AV→St→Prop} (R0:AV→St→Prop) (hn:Nat.ble st.nx 1000=true) (h1:i6 P f args st (fun r st'=>R0 (Bp st.nx r st') (yw st.nx r st'))) (h2:∀ r st',R0 r st'→R r st'):i6 P f args st R:=by
 intro g w vs hok hfr hrel
 rcases h1 g w vs hok hfr hrel with ⟨v,w',g',r,st',q1,q2,q3,q4,q5,q6⟩|⟨q1,q2⟩
 ·obtain ⟨g'',p1,p2,p3,p4⟩:=Y5 (Nat.le_of_ble_eq_true hn) hfr q4 q5 q6
  exact .inl ⟨v,w',g'',_,_,q1,h2 _ _ q2,p1,p2,p3,p4⟩
 ·refine .inr ⟨q1,q2.mono ?_⟩
  rintro e w' ⟨v,g',r,st',rfl,q2,q3,q4,q5,q6⟩
  obtain ⟨g'',p1,p2,p3,p4⟩:=Y5 (Nat.le_of_ble_eq_true hn) hfr q4 q5 q6
  exact ⟨v,g'',_,_,rfl,h2 _ _ q2,p1,p2,p3,p4⟩
theorem Ey (l) (n:Name):i7 (aq.val l n)=some n.length:=by
 rw [cx];show some (List.map (ai.val l) n).length=_;rw [List.length_map]
theorem aaf (a b:Operand):(#[a]++(none:Option Operand).toArray++(some b).toArray++(none:Option Operand).toArray).toList=[a,b]:=id rfl
theorem md4 (a:Nat):a * 4 / 4=a:=by omega
theorem dv4 : 4 / 4=1:=rfl
theorem dv8 : 8 / 8=1:=rfl
theorem Tn (fr h):b9.dec fr h [.sc (.int .u16 0)]=some 0:=rfl
theorem T0 (fr h):bh.dec fr h [.sc (.int .u32 0)]=some 0:=rfl
theorem Es (l:Bool) (d:au):(ag.val l d).cells=[.vl l 1 (d.names.map (aq.val l)),.vl l 1 (d.nums.map (bh.val l)),.vl l 1 (d.texts.map (ai.val l)),.vl l 1 (d.raw.map (aw.val l))]:=id rfl
theorem Fv (fr h l) (n:Name) (hl:(l || !fr)=true):gp ai fr h (aq.val l n)=some n:=qv ai fr h l n 1 rfl hl
theorem Gn (fr:Bool) (h:Tr ay) (x1 x2 x3 x4:AV):ag.dec fr h [x1,x2,x3,x4]=match gp aq fr h x1,gp bh fr h x2,gp ai fr h x3,gp aw fr h x4 with
 |some a,some b,some c,some e=>some (mkD a b c e)
 |_,_,_,_=>none:=(Nr ag fr h _ rfl).trans (B8 fr h x1 x2 x3 x4)
def Vy {α:Type} (C:cq α) (h:Tr ay) (off:Nat) (x:ay):Option α:=
 match x with
 |.row cells _ _ _=>bif Nat.ble (off+C.sz) cells.length then C.dec false h ((cells.drop off).take C.sz) else none
 |_=>none
def Ot {α:Type} (C:cq α) (h:Tr ay) (a:AV):Option α:=
 match a with
 |.er l=>bif Nat.ble C.sz l.length then C.dec false h (l.take C.sz) else none
 |.ptr o off=>(h.get o).bind (Vy C h off)
 |_=>none
theorem Jv {α:Type} (C:cq α) (h o off):Ot C h (.ptr o off)=(h.get o).bind (Vy C h off):=id rfl
theorem P4 {α:Type} (C:cq α) (h l):Ot C h (.er l)=bif Nat.ble C.sz l.length then C.dec false h (l.take C.sz) else none:=id rfl
theorem Kj {α:Type} (C:cq α) (h off cells k s e):Vy C h off (.row cells k s e)=bif Nat.ble (off+C.sz) cells.length then C.dec false h ((cells.drop off).take C.sz) else none:=id rfl
theorem ak9 {α:Type} (C:cq α) {g h w K b0 a v x} (hok:Ok g h w) (hl:s8 g h K) (hr:Rel g w a v) (hd:Ot C h a=some x):Rel (gK b0 K) w (.er (C.cells false x)) v:=by
 have fin:∀ (b off:Nat) (vs:List Value),be g w ((C.cells false x).map fun _=>AV.bad) vs→be (gK b0 K) w (C.cells false x) vs→(∀ j u,vs[j]? = some u→K b (off+j)∧w.cell? ⟨b,off+j,none⟩=some u)→Rel (gK b0 K) w (.er (C.cells false x)) (.pointer (some ⟨b,off,none⟩)):=by
  intro b off vs _ hrl hc
  refine .er _ b off (fun j=>vs.getD j undef) (fun j a hj=>?_) (fun j a hj=>?_)
  ·obtain ⟨u,hu,_⟩:=hrl.get hj
   have:=hc j u hu
   exact ⟨this.1,by rw [this.2,List.getD_eq_getElem?_getD,hu];rfl⟩
  ·obtain ⟨u,hu,hrel⟩:=hrl.get hj
   show Rel _ _ a (vs.getD j undef)
   rw [List.getD_eq_getElem?_getD,hu];exact hrel
 have bads:∀ vs:List Value,be (gK b0 K) w (C.cells false x) vs→be g w ((C.cells false x).map fun _=>AV.bad) vs:=fun vs h=>⟨by simpa using h.1,fun i a v ha _=>by
  rw [List.getElem?_map,Option.map_eq_some_iff] at ha
  obtain ⟨_,_,rfl⟩:=ha
  exact .bad _⟩
 cases hr with
 |er l b off c h1 h2=>
  rw [P4] at hd
  cases hb:Nat.ble C.sz l.length with
  |false=>rw [hb] at hd;cases hd
  |true=>
   rw [hb,cond_true] at hd
   have hle:=Nat.le_of_ble_eq_true hb
   have hlist:be g w (l.take C.sz) (i4 0 C.sz c):=by
    refine ⟨by simp [i4];omega,fun i a v ha hv=>?_⟩
    rw [List.getElem?_take] at ha
    by_cases hi:i<C.sz
    ·rw [if_pos hi] at ha
     simp only [i4,List.getElem?_map,List.getElem?_range hi,Option.map_some,Option.some.injEq,Nat.zero_add] at hv
     subst hv
     exact h2 i a ha
    ·rw [if_neg hi] at ha;cases ha
   have q:=C.ok (b0:=b0) hok hl (fun e=>by cases e) hlist hd
   refine fin b off _ (bads _ q) q (fun j u hu=>?_)
   have hj:j<C.sz:=by have:=(List.getElem?_eq_some_iff.1 hu).1;simpa [i4] using this
   simp only [i4,List.getElem?_map,List.getElem?_range hj,Option.map_some,Option.some.injEq,Nat.zero_add] at hu
   subst hu
   have:=h1 j _ (List.getElem?_eq_getElem (by omega))
   exact ⟨hl.K _ _ this.1,this.2⟩
 |ptr o off b base hi=>
  rw [Jv,Option.bind_eq_some_iff] at hd
  obtain ⟨y,hy,hd⟩:=hd
  obtain ⟨b',base',hi',hbb,hrow⟩:=hok.obj o y hy
  rw [hi] at hi';cases hi'
  cases y with
  |map es=>cases hd
  |loop=>cases hd
  |row cells k st et=>
   rw [Kj] at hd
   cases hle:Nat.ble (off+C.sz) cells.length with
   |false=>rw [hle] at hd;cases hd
   |true=>
    rw [hle,cond_true] at hd
    have hle':=Nat.le_of_ble_eq_true hle
    obtain ⟨cs,fz,r1,r2,r3,_⟩:=hrow
    have hpart:be g w ((cells.drop off).take C.sz) (i4 (base+off) C.sz (fun j=>cs.getD j undef)):=by
     refine ⟨by simp [i4];omega,fun i a v ha hv=>?_⟩
     rw [List.getElem?_take,List.getElem?_drop] at ha
     by_cases hil:i<C.sz
     ·rw [if_pos hil] at ha
      obtain ⟨u,hu,hrel⟩:=r3 _ a ha
      simp only [i4,List.getElem?_map,List.getElem?_range hil,Option.map_some,Option.some.injEq] at hv
      subst hv
      rw [Array.getD_eq_getD_getElem?,Nat.add_assoc,hu]
      exact hrel
     ·rw [if_neg hil] at ha;cases ha
    have q:=C.ok (b0:=b0) hok hl (fun e=>by cases e) hpart hd
    refine fin b (base+off) _ (bads _ q) q (fun j u hv=>?_)
    have hj:j<C.sz:=by have:=(List.getElem?_eq_some_iff.1 hv).1;simpa [i4] using this
    simp only [i4,List.getElem?_map,List.getElem?_range hj,Option.map_some,Option.some.injEq] at hv
    obtain ⟨u,hu,_⟩:=r3 (off+j) (cells[off+j]'(by omega)) (by simp)
    have hrows:=hl.rows o cells k st et hy b base hi (off+j) (.inr (by omega))
    rw [← Nat.add_assoc] at hrows hu
    refine ⟨hrows,?_⟩
    rw [ib r1,hu,← hv,Array.getD_eq_getD_getElem?,hu]
    rfl
 |_=>cases hd
def aP {α β:Type} (C:cq α) (R:AC β):AC (α × β) where
 E p:=.er (C.cells false p.1)::R.E p.2
 D h l:=match l with
  | []=>none
  |a::r=>match Ot C h a,R.D h r with
   |some x,some y=>some (x,y)
   |_,_=>none
 rt h p:=by
  have:Ot C h (.er (C.cells false p.1))=some p.1:=by
   rw [P4,C.len,Nat.ble_self_eq_true,cond_true,List.take_of_length_le (by rw [C.len];exact Nat.le_refl _)]
   exact C.rt false h false p.1 (fun e=>by cases e)
  simp only [this,R.rt]
 ok:=by
  intro g h w K b0 l vs x hok hl hr hd
  match l,hd with
  |a::r,hd=>
   simp only at hd
   split at hd
   ·rename_i x1 y1 hx hy
    simp at hd;subst hd
    match vs,hr with
    | [],hr=>have:=hr.1;simp at this
    |v::vs,hr=>exact be.cons (ak9 C hok hl hr.head hx) (R.ok hok hl hr.tail hy)
   ·cases hd
theorem am9 {α β:Type} (C:cq α) (R:AC β) (h:Tr ay) (a:AV) (r:List AV):(aP C R).get h (a::r)=match Ot C h a,R.get h r with|some x,some y=>some (x,y)|_,_=>none:=id rfl
theorem mi (f) (l:List au) (d:au):cellsOf ag f (l++[d])=cellsOf ag f l++[.vl f 1 (d.names.map (aq.val f)),.vl f 1 (d.nums.map (bh.val false)),.vl f 1 (d.texts.map (ai.val false)),.vl f 1 (d.raw.map (aw.val false))]:=by rw [xr,Iv];rfl
structure bu where
 owner:Name
 type:UInt16
 cls:UInt16
 dv:UInt32
 data:List au
def C4 (owner:Name) (type:UInt16) (cls:UInt16) (dv:UInt32) (data:List au):bu:=⟨owner,type,cls,dv,data⟩
theorem Z2 (x:bu):C4 x.owner x.type x.cls x.dv x.data=x:=id rfl
theorem aee (owner type cls dv data):(C4 owner type cls dv data).owner=owner:=id rfl
theorem aic (owner type cls dv data):(C4 owner type cls dv data).data=data:=id rfl
def br:cq bu:=z5 (js aq (js b9 (js b9 (js bh (bw ag))))) (fun x=>(x.owner,x.type,x.cls,x.dv,x.data)) (fun p=>⟨p.1,p.2.1,p.2.2.1,p.2.2.2.1,p.2.2.2.2⟩) (fun _=>rfl) (fun _=>rfl)
theorem fg (l:Bool) (x:bu):br.val l x = .agg [.vl l 1 (x.owner.map (ai.val l)),.sc (.int .u16 x.type.toNat),.sc (.int .u16 x.cls.toNat),.sc (.int .u32 x.dv.toNat),.vl l 4 (x.data.map (ag.val l))]:=id rfl
theorem Ry (l:Bool) (x:bu):br.cells l x=[.vl l 1 (x.owner.map (ai.val l)),.sc (.int .u16 x.type.toNat),.sc (.int .u16 x.cls.toNat),.sc (.int .u32 x.dv.toNat),.vl l 4 (x.data.map (ag.val l))]:=id rfl
theorem Pg:br.sz=5:=id rfl
theorem D9 (fr:Bool) (h:Tr ay) (y0 y1 y2 y3 y4:AV):br.fw fr h (.agg [y0,y1,y2,y3,y4])=match gp ai fr h y0,b9.dec fr h [y1],b9.dec fr h [y2],bh.dec fr h [y3],gp ag fr h y4 with
 |some v0,some v1,some v2,some v3,some v4=>some (C4 v0 v1 v2 v3 v4)
 |_,_,_,_,_=>none:=by
 rw [Ap _ _ _ _ rfl rfl]
 have h1:br.dec fr h (AV.agg [y0,y1,y2,y3,y4]).cells=Option.map (fun p=>(⟨p.1,p.2.1,p.2.2.1,p.2.2.2.1,p.2.2.2.2⟩:bu)) ((js aq (js b9 (js b9 (js bh (bw ag))))).dec fr h [y0,y1,y2,y3,y4]):=rfl
 rw [h1]
 simp only [ame,C1,u2,Q4,Bd,Lx,Pf,List.take_succ_cons,List.take_zero,List.drop_succ_cons,List.drop_zero,ajf,ai1]
 cases (gp ai fr h y0)<;>cases (b9.dec fr h [y1])<;>cases (b9.dec fr h [y2])<;>cases (bh.dec fr h [y3])<;>cases (gp ag fr h y4)<;>rfl
theorem Jh (fr:Bool) (h:Tr ay) (y0 y1 y2 y3 y4:AV):br.dec fr h [y0,y1,y2,y3,y4]=match gp ai fr h y0,b9.dec fr h [y1],b9.dec fr h [y2],bh.dec fr h [y3],gp ag fr h y4 with
 |some v0,some v1,some v2,some v3,some v4=>some (C4 v0 v1 v2 v3 v4)
 |_,_,_,_,_=>none:=(Nr br fr h _ rfl).trans (D9 fr h y0 y1 y2 y3 y4)
structure mr where
 owner:Name
 type:UInt16
 cls:UInt16
 dv:UInt32
 data:au
def mkR (owner:Name) (type:UInt16) (cls:UInt16) (dv:UInt32) (data:au):mr:=⟨owner,type,cls,dv,data⟩
theorem Y2 (x:mr):mkR x.owner x.type x.cls x.dv x.data=x:=id rfl
def eu:cq mr:=z5 (js aq (js b9 (js b9 (js bh ag)))) (fun x=>(x.owner,x.type,x.cls,x.dv,x.data)) (fun p=>⟨p.1,p.2.1,p.2.2.1,p.2.2.2.1,p.2.2.2.2⟩) (fun _=>rfl) (fun _=>rfl)
theorem Ef (l:Bool) (x:mr):eu.val l x = .agg [.vl l 1 (x.owner.map (ai.val l)),.sc (.int .u16 x.type.toNat),.sc (.int .u16 x.cls.toNat),.sc (.int .u32 x.dv.toNat),.vl l 1 (x.data.names.map (aq.val l)),.vl l 1 (x.data.nums.map (bh.val l)),.vl l 1 (x.data.texts.map (ai.val l)),.vl l 1 (x.data.raw.map (aw.val l))]:=id rfl
theorem Rm:eu.sz=8:=id rfl
theorem Mc (fr:Bool) (h:Tr ay) (y0 y1 y2 y3 y40 y41 y42 y43:AV):eu.fw fr h (.agg [y0,y1,y2,y3,y40,y41,y42,y43])=match gp ai fr h y0,b9.dec fr h [y1],b9.dec fr h [y2],bh.dec fr h [y3],ag.fw fr h (.agg [y40,y41,y42,y43]) with
 |some v0,some v1,some v2,some v3,some v4=>some (mkR v0 v1 v2 v3 v4)
 |_,_,_,_,_=>none:=by
 rw [Ap _ _ _ _ rfl rfl]
 have h1:eu.dec fr h (AV.agg [y0,y1,y2,y3,y40,y41,y42,y43]).cells=Option.map (fun p=>(⟨p.1,p.2.1,p.2.2.1,p.2.2.2.1,p.2.2.2.2⟩:mr)) ((js aq (js b9 (js b9 (js bh ag)))).dec fr h [y0,y1,y2,y3,y40,y41,y42,y43]):=rfl
 rw [h1]
 simp only [ame,C1,u2,Q4,Bd,Lx,Pf,List.take_succ_cons,List.take_zero,List.drop_succ_cons,List.drop_zero,ajf,ai1,Er,Nr ag fr h _ rfl]
 cases (gp ai fr h y0)<;>cases (b9.dec fr h [y1])<;>cases (b9.dec fr h [y2])<;>cases (bh.dec fr h [y3])<;>cases (ag.fw fr h (.agg [y40,y41,y42,y43]))<;>rfl
theorem Gt (l) (xs:List mr) (x:mr):cellsOf eu l (xs++[x])=cellsOf eu l xs++[.vl l 1 (x.owner.map (ai.val false)),.sc (.int .u16 x.type.toNat),.sc (.int .u16 x.cls.toNat),.sc (.int .u32 x.dv.toNat),.vl l 1 (x.data.names.map (aq.val l)),.vl l 1 (x.data.nums.map (bh.val false)),.vl l 1 (x.data.texts.map (ai.val false)),.vl l 1 (x.data.raw.map (aw.val false))]:=by rw [xr,Iv];rfl
structure ia where
 origin:Name
 ki:List bu
structure ait where
 addr:UInt32
 aa2:List Int
structure U6 where
 aa2:List ia
 aoj:List ait
 hints:List UInt32
structure Sw where
 kind:Int
 node:Name
 Y8:Name
def Vo (kind:Int) (node:Name) (Y8:Name):Sw:=⟨kind,node,Y8⟩
structure abn where
 turn:Int
 ki:List bu
 to:Name
def Uk (turn:Int) (ki:List bu) (to:Name):abn:=⟨turn,ki,to⟩
structure Gj where
 ajj:Int
 aa:Bool
 answer:List bu
 authority:List bu
 Eo:List bu
def Qt (ajj:Int) (aa:Bool) (answer:List bu) (authority:List bu) (Eo:List bu):Gj:=⟨ajj,aa,answer,authority,Eo⟩
theorem ae:type_of% @Ey∧type_of% @aaf∧type_of% @md4∧type_of% @dv4∧type_of% @dv8∧type_of% @Tn∧type_of% @T0∧type_of% @Jv∧type_of% @Kj∧type_of% @am9∧type_of% @Gn∧type_of% @Fv∧type_of% @Es∧type_of% @Jm∧type_of% @kn∧type_of% @l9∧type_of% @Z2∧type_of% @Jh∧type_of% @fg∧type_of% @Pg∧type_of% @D9∧type_of% @Y2∧type_of% @Ef∧type_of% @Rm∧type_of% @Mc:=
 ⟨@Ey,@aaf,@md4,@dv4,@dv8,@Tn,@T0,@Jv,@Kj,@am9,@Gn,@Fv,@Es,@Jm,@kn,@l9,@Z2,@Jh,@fg,@Pg,@D9,@Y2,@Ef,@Rm,@Mc⟩
end
end Go.Vm
end
section
namespace Go.Proofs.Ytgencolcibpcaaa
open Go.Vm
set_option maxRecDepth 2000000
noncomputable def ve (t:UInt16) (l:List au) (d:au):Bool:=l.any fun x=>tm t x d
theorem am5 (t:UInt16) (l:List au) (d:au) (hl:∀ x ∈ l,bg x) (hn:l.length≤16777216) (hd:bg d):wl PP [] 0 (Try.f31.body.getD .skip) (dk PP Try.f31.results.toList (fun r st=>(r1 cp).get true st.h r=some (ve t l d))) (cw 0 [b9.val false t,(bw ag).val false l,ag.val false d]) (bk []):=by
 unfold Try.f31
 simp only [nf,dy]
 simp only [↓wR,RA,simprocAttr,TF,ae]
 refine fu (T:=[]) (ak.nil PP) mixed Try.func61 rfl (by kernel_rfl) (by kernel_rfl) (by kernel_rfl) (by kernel_rfl) ?_;unfold Try.f61
 simp only [↓wR,RA,simprocAttr,TF,ae]
 refine fu (T:=[]) (ak.nil PP) mixed Try.func89 rfl (by kernel_rfl) (by kernel_rfl) (by kernel_rfl) (by kernel_rfl) ?_;unfold Try.f89
 simp only [↓wR,RA,simprocAttr,TF,ae]
 refine dm [0,1,7,8] (fun (i:Nat)=>[.vl false 4 (l.map (ag.val false)),.fn (.func 62) [] [.ptr 0 0,.ptr 1 0],.sc (.int .i64 (l.length)),.sc (.int .i64 (i))]) (fun _=>[some (.row [.sc (.int .u16 t.toNat)] 0 2 37),some (.row [.vl false 1 (d.names.map (aq.val false)),.vl false 1 (d.nums.map (bh.val false)),.vl false 1 (d.texts.map (ai.val false)),.vl false 1 (d.raw.map (aw.val false))] 0 2 47)]) (fun i=>i≤l.length∧ve t l d=ve t (l.drop i) d) (fun i=>l.length - i) 0 ⟨Nat.zero_le _,rfl⟩ (by simp only [↓wR,RA,simprocAttr,TF,ae]<;>rfl) (by simp only [↓wR,RA,simprocAttr,TF,ae]<;>rfl) ?_
 rintro i ⟨hi,hx⟩
 simp only [↓wR,RA,simprocAttr,TF,ae]
 rw [bf];refine ⟨fun h=>?_,fun h=>?_⟩
 ·obtain ⟨c,hc,hd1,hlt⟩:=ey (decide_eq_true h)
  have hx':ve t l d=(tm t c d || ve t (l.drop (i+1)) d):=by rw [hx,hd1];rfl
  simp only [↓wR,RA,simprocAttr,TF,ae,h,hc];repeat (simp (disch:=omega) only [ah,cd,cf,cb,ca];try simp only [↓wR,RA,simprocAttr,TF,ae,h,hc])
  refine fu (T:=[aiq]) (ak.cons (aj Rs) (ak.nil PP)) mixed Try.func62 rfl (by kernel_rfl) (by kernel_rfl) (by kernel_rfl) (by kernel_rfl) ?_;unfold Try.f62
  simp only [↓wR,RA,simprocAttr,TF,ae,x7,hl c (List.mem_of_getElem? hc),hd]
  rw [fe];refine ⟨fun h1=>?_,fun h1=>?_⟩
  ·rw [h1,Bool.true_or] at hx'
   simp only [↓wR,RA,simprocAttr,TF,ae,h1]
   rw [hx']
   done
  ·rw [h1,Bool.false_or] at hx'
   simp only [↓wR,RA,simprocAttr,TF,ae,h1];repeat (simp (disch:=omega) only [ah,cd,cf,cb,ca];try simp only [↓wR,RA,simprocAttr,TF,ae,h1])
   exact ⟨i+1,⟨hlt,hx'⟩,by omega,by (first|rfl|trivial|omega|((try (simp (disch:=omega) only [ah]));(try (simp only [FB]));first|done|rfl|omega))⟩
 ·rw [ij (decide_eq_false h)] at hx
  simp only [↓wR,RA,simprocAttr,TF,ae,h]
  rw [hx];rfl
def k5 (l:List au):Prop:=jq po l≤16777216
instance (l:List au):Decidable (k5 l):=inferInstanceAs (Decidable (_≤_))
theorem k5.mem {l:List au} (h:k5 l):∀ x ∈ l,bg x:=fun x hx=>by
 have h1:po x<jq po l:=Oy hx
 unfold k5 at h;unfold bg;omega
theorem k5.len {l:List au} (h:k5 l):l.length≤16777216:=Nat.le_trans (N2 po l) h
theorem aim {α:Type} (f : α→Nat) (l:List α) (i:Nat):jq f (l.take i)≤jq f l:=by
 induction l generalizing i with
 |nil=>simp
 |cons a l ih=>
  cases i with
  |zero=>exact Nat.zero_le _
  |succ i=>have:=ih i;simp only [jq,List.take_succ_cons,List.foldr_cons] at this ⊢;omega
theorem k5.take {l:List au} (h:k5 l) (i:Nat):k5 (l.take i):=Nat.le_trans (aim po l i) h
noncomputable def Hx (x:UInt16 × List au × au × Unit):Option AV:=if k5 x.2.1∧bg x.2.2.1 then some ((r1 cp).E true (ve x.1 x.2.1 x.2.2.1)) else none
set_option maxRecDepth 2000000 in
theorem O9 (x:UInt16 × List au × au × Unit) (r:AV) (h:Hx x=some r):bp PP 31 ((aC b9 (aC (bw ag) (aC ag a0))).E x) r:=by
 by_cases hc:k5 x.2.1∧bg x.2.2.1
 case neg=>simp only [Hx,if_neg hc] at h;cases h
 simp only [Hx,if_pos hc] at h
 cases h
 exact az (ak.nil PP) Try.func31 (by kernel_rfl) (by kernel_rfl) (by kernel_rfl) (Nat.le_of_ble_eq_true (by kernel_rfl)) (r1 cp) true (ve x.1 x.2.1 x.2.2.1) (am5 x.1 x.2.1 x.2.2.1 hc.1.mem hc.1.len hc.2)
noncomputable abbrev amt:Nat × Bool × (List AV→M AV):=(31,true,de (aC b9 (aC (bw ag) (aC ag a0))) Hx)
def x9 (s:bu):Nat:=bj s.owner+jq po s.data
def cz (s:bu):Prop:=x9 s≤16777216
instance (s:bu):Decidable (cz s):=inferInstanceAs (Decidable (_≤_))
theorem cz.owner {s:bu} (h:cz s):ee s.owner:=by unfold cz x9 at h;unfold ee;omega
theorem cz.data {s:bu} (h:cz s):k5 s.data:=by unfold cz x9 at h;unfold k5;omega
noncomputable def pw (t:UInt16):List au→List au→Int
 |_,[]=>0
 |pre,d::r=>if c9 t d≠0 then c9 t d else if ve t pre d=true then 10 else pw t (pre++[d]) r
noncomputable def gz (s:bu):Int:=
 if db s.owner≠0 then db s.owner else if s.data.length=0 then 9 else if 512<s.data.length then 3 else pw s.type [] s.data
theorem Il (t:UInt16) {l:List au} {i:Nat} {c:au} (hc:l[i]? = some c):pw t (l.take i) (l.drop i)=if c9 t c≠0 then c9 t c else if ve t (l.take i) c=true then 10 else pw t (l.take (i+1)) (l.drop (i+1)):=by
 obtain ⟨hi,rfl⟩:=List.getElem?_eq_some_iff.1 hc
 rw [List.drop_eq_getElem_cons hi,pw,List.take_succ_eq_append_getElem hi]
theorem Yt (s:bu) (hs:cz s):wl PP [Gv,yc,amt] 0 (Try.f20.body.getD .skip) (dk PP Try.f20.results.toList (fun r st=>(r1 (bz .i64)).get true st.h r=some (gz s))) (cw 0 [br.val false s]) (bk []):=by
 have ho:=hs.owner
 have hd:=hs.data
 have hn:=hd.len
 unfold Try.f20
 simp only [fg]
 simp only [↓wR,RA,simprocAttr,TF,ae,pz,ho.fit]
 unfold gz
 rw [fe];refine ⟨fun h=>?_,fun h=>?_⟩
 ·have he:db s.owner≠0:=by simpa using h
  rw [if_pos he]
  simp only [↓wR,RA,simprocAttr,TF,ae,h]
 have he:db s.owner=0:=by simpa using h
 rw [if_neg (by omega)]
 simp only [↓wR,RA,simprocAttr,TF,ae,h]
 rw [ct];refine ⟨fun ⟨h1,e1⟩=>?_,fun ⟨h1,e1⟩=>?_⟩
 ·rw [if_pos (by omega)]
  simp only [↓wR,RA,simprocAttr,TF,ae,h1]
 rw [if_neg (by omega)]
 simp only [↓wR,RA,simprocAttr,TF,ae,h1]
 rw [bf];refine ⟨fun h2=>?_,fun h2=>?_⟩
 ·rw [if_pos (by omega)]
  simp only [↓wR,RA,simprocAttr,TF,ae,h2]
 rw [if_neg (by omega)]
 simp only [↓wR,RA,simprocAttr,TF,ae,h2]
 refine dm [1,24,25,26] (fun (i:Nat)=>[.ptr 0 0,.vl false 4 (s.data.map (ag.val false)),.sc (.int .i64 (s.data.length)),.sc (.int .i64 (i))]) (fun _=>[some (.row [.vl false 1 (s.owner.map (ai.val false)),.sc (.int .u16 s.type.toNat),.sc (.int .u16 s.cls.toNat),.sc (.int .u32 s.dv.toNat),.vl false 4 (s.data.map (ag.val false))] 0 2 42)]) (fun i=>i≤s.data.length∧pw s.type [] s.data=pw s.type (s.data.take i) (s.data.drop i)) (fun i=>s.data.length - i) 0 ⟨Nat.zero_le _,rfl⟩ (by simp only [↓wR,RA,simprocAttr,TF,ae]<;>rfl) (by simp only [↓wR,RA,simprocAttr,TF,ae]<;>rfl) ?_
 rintro i ⟨hi,hx⟩
 simp only [↓wR,RA,simprocAttr,TF,ae]
 rw [bf];refine ⟨fun h3=>?_,fun h3=>?_⟩
 ·obtain ⟨c,hc,hd1,hlt⟩:=ey (decide_eq_true h3)
  rw [Il _ hc] at hx
  have hcs:=hd.mem c (List.mem_of_getElem? hc)
  simp only [↓wR,RA,simprocAttr,TF,ae,h3,hc,lx,hcs]
  rw [fe];refine ⟨fun h4=>?_,fun h4=>?_⟩
  ·have he4:c9 s.type c≠0:=by simpa using h4
   rw [if_pos he4] at hx
   simp only [↓wR,RA,simprocAttr,TF,ae,h4]
   rw [hx]
  ·have he4:c9 s.type c=0:=by simpa using h4
   rw [if_neg (by omega)] at hx
   simp only [↓wR,RA,simprocAttr,TF,ae,h4]
   refine ⟨by kernel_rfl,.inl ?_⟩
   simp only [↓wR,RA,simprocAttr,TF,ae,hi,Hx,hd.take i,hcs]
   refine ⟨by kernel_rfl,?_⟩
   rw [fe];refine ⟨fun h5=>?_,fun h5=>?_⟩
   ·rw [if_pos h5] at hx
    simp only [↓wR,RA,simprocAttr,TF,ae,h5]
    rw [hx]
   ·rw [if_neg (by rw [h5];decide)] at hx
    simp only [↓wR,RA,simprocAttr,TF,ae,h5];repeat (simp (disch:=omega) only [ah,cd,cf,cb,ca];try simp only [↓wR,RA,simprocAttr,TF,ae,h5])
    exact ⟨i+1,⟨hlt,hx⟩,by omega,by (first|rfl|trivial|omega|((try (simp (disch:=omega) only [ah]));(try (simp only [FB]));first|done|rfl|omega))⟩
 ·rw [ij (decide_eq_false h3)] at hx
  simp only [↓wR,RA,simprocAttr,TF,ae,h3]
  rw [hx];rfl
noncomputable def sg (x:bu × Unit):Option AV:=if cz x.1 then some ((r1 (bz .i64)).E true (gz x.1)) else none
set_option maxRecDepth 2000000 in
theorem yx (x:bu × Unit) (r:AV) (h:sg x=some r):bp PP 20 ((aC br a0).E x) r:=by
 by_cases hc:cz x.1
 case neg=>simp only [sg,if_neg hc] at h;cases h
 simp only [sg,if_pos hc] at h
 cases h
 exact az (ak.cons (aj wi) (ak.cons (aj pn) (ak.cons (aj O9) (ak.nil PP)))) Try.func20 (by kernel_rfl) (by kernel_rfl) (by kernel_rfl) (Nat.le_of_ble_eq_true (by kernel_rfl)) (r1 (bz .i64)) true (gz x.1) (Yt x.1 hc)
noncomputable abbrev Dk:Nat × Bool × (List AV→M AV):=(20,true,de (aC br a0) sg)
theorem Vc {S:Nat→Prop} {M b0:Nat} {K:Nat→Nat→Prop} {w:World} {l:List ByteArray} {v:Value} (hS:∀ b,b0≤b→(∀ j,K b j)→S b) (hM:∀ s ∈ l,s.size≤M) (hr:Rel (gK b0 K) w (.vl true 1 (l.map (ai.val true))) v):ln S M w .str v:=by
 refine Ox (l:=true) ai rfl rfl rfl (by decide) (fun x hx c hc s e=>?_) (fun x hx c hc=>?_) hS hr
 ·have hc':c ∈ [AV.sc (.string x)]:=hc
  rw [List.mem_singleton] at hc'
  rw [hc'] at e;cases e
  exact hM _ hx
 ·have hc':c ∈ [AV.sc (.string x)]:=hc
  rw [List.mem_singleton] at hc'
  exact ⟨_,hc'⟩
theorem ahc {S:Nat→Prop} {M b0:Nat} {K:Nat→Nat→Prop} {w:World} {l:List UInt32} {v:Value} (hS:∀ b,b0≤b→(∀ j,K b j)→S b) (hr:Rel (gK b0 K) w (.vl true 1 (l.map (bh.val true))) v):ln S M w (.int .u32) v:=by
 refine Ox (l:=true) bh rfl rfl rfl (by decide) (fun x hx c hc s e=>?_) (fun x hx c hc=>?_) hS hr
 ·have hc':c ∈ [AV.sc (.int .u32 x.toNat)]:=hc
  rw [List.mem_singleton] at hc'
  rw [hc'] at e;cases e
 ·have hc':c ∈ [AV.sc (.int .u32 x.toNat)]:=hc
  rw [List.mem_singleton] at hc'
  exact ⟨_,hc'⟩
theorem alh {S:Nat→Prop} {M b0:Nat} {K:Nat→Nat→Prop} {w:World} {l:List UInt8} {v:Value} (hS:∀ b,b0≤b→(∀ j,K b j)→S b) (hr:Rel (gK b0 K) w (.vl true 1 (l.map (aw.val true))) v):ln S M w (.int .u8) v:=by
 refine Ox (l:=true) aw rfl rfl rfl (by decide) (fun x hx c hc s e=>?_) (fun x hx c hc=>?_) hS hr
 ·have hc':c ∈ [AV.sc (.int .u8 x.toNat)]:=hc
  rw [List.mem_singleton] at hc'
  rw [hc'] at e;cases e
 ·have hc':c ∈ [AV.sc (.int .u8 x.toNat)]:=hc
  rw [List.mem_singleton] at hc'
  exact ⟨_,hc'⟩
theorem size_le (n:Name):∀ s ∈ n,s.size≤bj n:=by
 intro s hs
 obtain ⟨i,hi,rfl⟩:=List.getElem_of_mem hs
 have h1:=ze n i _ (List.getElem?_eq_getElem hi)
 have h2:=(iu n (i+1)).1
 omega
theorem Fq {S:Nat→Prop} {b0:Nat} {K:Nat→Nat→Prop} {w:World} {n:Name} {v:Value} (hS:∀ b,b0≤b→(∀ j,K b j)→S b) (hn:ee n) (hr:Rel (gK b0 K) w (.vl true 1 (n.map (ai.val true))) v):ln S 16777216 w .str v:=
 Vc hS (fun s hs=>by have:=size_le n s hs;unfold ee at hn;omega) hr
theorem Zh {S:Nat→Prop} {b0:Nat} {K:Nat→Nat→Prop} {w:World} {d:au} {vs:List Value} (hS:∀ b,b0≤b→(∀ j,K b j)→S b) (hd:bg d) (hr:be (gK b0 K) w (ag.cells true d) vs):tn S 16777216 16777216 w vs:=by
 have h4:vs.length=4:=hr.1
 match vs,h4,hr with
 | [a,b,c,e],_,hr=>
  have ha:Rel (gK b0 K) w (.vl true 1 (d.names.map (aq.val true))) a:=hr.2 0 _ _ rfl rfl
  have hb:Rel (gK b0 K) w (.vl true 1 (d.nums.map (bh.val true))) b:=hr.2 1 _ _ rfl rfl
  have hc:Rel (gK b0 K) w (.vl true 1 (d.texts.map (ai.val true))) c:=hr.2 2 _ _ rfl rfl
  have he:Rel (gK b0 K) w (.vl true 1 (d.raw.map (aw.val true))) e:=hr.2 3 _ _ rfl rfl
  refine ⟨a,b,c,e,rfl,Oo (l:=true) aq rfl hd.lens.1 (fun n hn us hus=>?_) hS ha,ahc hS hb,Vc hS (fun s hs=>hd.text s hs) hc,alh hS he⟩
  have h1:us.length=1:=hus.1
  match us,h1,hus with
  | [u],_,hus=>exact ⟨u,rfl,Fq hS (hd.name n hn) hus.head⟩
theorem Wc {S:Nat→Prop} {b0:Nat} {K:Nat→Nat→Prop} {w:World} {s:bu} {vs:List Value} (hS:∀ b,b0≤b→(∀ j,K b j)→S b) (hs:cz s) (hr:be (gK b0 K) w (br.cells true s) vs):u1 S 16777216 16777216 16777216 w vs:=by
 have h5:vs.length=5:=hr.1
 match vs,h5,hr with
 | [o,t,c,u,d],_,hr=>
  have ho:Rel (gK b0 K) w (.vl true 1 (s.owner.map (ai.val true))) o:=hr.2 0 _ _ rfl rfl
  have ht:Rel (gK b0 K) w (.sc (.int .u16 s.type.toNat)) t:=hr.2 1 _ _ rfl rfl
  have hc:Rel (gK b0 K) w (.sc (.int .u16 s.cls.toNat)) c:=hr.2 2 _ _ rfl rfl
  have hu:Rel (gK b0 K) w (.sc (.int .u32 s.dv.toNat)) u:=hr.2 3 _ _ rfl rfl
  have hd:Rel (gK b0 K) w (.vl true 4 (s.data.map (ag.val true))) d:=hr.2 4 _ _ rfl rfl
  refine ⟨o,t,c,u,d,rfl,Fq hS hs.owner ho,by rw [ht.exact rfl];rfl,by rw [hc.exact rfl];rfl,by rw [hu.exact rfl];rfl,Oo (l:=true) ag rfl (hs.data.len) (fun x hx us hus=>Zh hS (hs.data.mem x hx) hus) hS hd⟩
theorem K0:TK.sz 42=some 5:=by kernel_rfl
theorem aa3 (s:bu) (hs:cz s):wl PP [Au,Ec] 0 (Try.f18.body.getD .skip) (dk PP Try.f18.results.toList (fun r st=>(r1 br).get true st.h r=some s)) (cw 0 [br.val false s]) (bk []):=by
 have ho:=hs.owner
 have hd:=hs.data
 have hn:=hd.len
 unfold Try.f18
 simp only [fg]
 simp only [↓wR,RA,simprocAttr,TF,ae,m4,ho]
 refine fj [2,13,14,15,3] (fun (x:List au)=>[.ptr 0 0,.vl false 4 (s.data.map (ag.val false)),.sc (.int .i64 (s.data.length)),.sc (.int .i64 (x.length)),.ptr 1 0]) (fun x=>[some (.row [.sc (.slice none 0 0),.sc (.int .u16 0),.sc (.int .u16 0),.sc (.int .u32 0),.sc (.slice none 0 0)] 0 2 42),some (.row [aq.val true s.owner,.sc (.int .u16 s.type.toNat),.sc (.int .u16 s.cls.toNat),.sc (.int .u32 s.dv.toNat),.sl 2 0 x.length 4] 0 2 42),some (.row (cellsOf ag true x) 0 0 47)]) (fun x=>x.length≤s.data.length∧x++s.data.drop x.length=s.data) (fun x=>s.data.length - x.length) [] ⟨Nat.zero_le _,rfl⟩ (by simp only [↓wR,RA,simprocAttr,TF,ae];(refine jl.lax [] (by first|exact Nat.le_of_ble_eq_true rfl|(simp [cy];omega)) ?_ ?_<;>repeat' first|exact dx.nil|exact bt.nil|exact ek.same _|exact ek.nil _ _ _|exact ek.ml _ _|exact bt.refl _ _|apply dx.cons|apply bt.ghost|apply bt.same|apply bt.row)) ?_
 rintro x ⟨hi,hx⟩
 simp only [↓wR,RA,simprocAttr,TF,ae]
 rw [bf];refine ⟨fun h=>?_,fun h=>?_⟩
 ·obtain ⟨c,hc,hd1,hlt⟩:=ey (decide_eq_true h)
  rw [hd1] at hx
  have hcs:=hd.mem c (List.mem_of_getElem? hc)
  simp only [↓wR,RA,simprocAttr,TF,ae,h,hc]
  refine ⟨by kernel_rfl,.inl ?_⟩
  have hlim:(x.length * 4+4) * 96≤140737488355328:=by omega
  simp only [↓wR,RA,simprocAttr,TF,ae,ny,hcs,hlim]
  refine ⟨by kernel_rfl,x++[c],⟨by simp;omega,by simpa using hx⟩,by simp;omega,by (first|rfl|trivial|omega|((try (simp (disch:=omega) only [ah]));(try (simp only [FB]));first|done|rfl|omega)),?_⟩
  rw [mi,List.length_append];rfl
 ·rw [ij (decide_eq_false h)] at hx
  rw [List.append_nil] at hx
  subst hx
  simp only [↓wR,RA,simprocAttr,TF,ae,h]
noncomputable def Ak (x:bu × Unit):Option AV:=if cz x.1 then some ((r1 br).E true (x.1)) else none
set_option maxRecDepth 2000000 in
theorem Uv (x:bu × Unit) (r:AV) (h:Ak x=some r):bp PP 18 ((aC br a0).E x) r:=by
 by_cases hc:cz x.1
 case neg=>simp only [Ak,if_neg hc] at h;cases h
 simp only [Ak,if_pos hc] at h
 cases h
 exact az (ak.cons (aj qk) (ak.cons (aj tr) (ak.nil PP))) Try.func18 (by kernel_rfl) (by kernel_rfl) (by kernel_rfl) (Nat.le_of_ble_eq_true (by kernel_rfl)) (r1 br) true (x.1) (aa3 x.1 hc)
noncomputable abbrev Y6:Nat × Bool × (List AV→M AV):=(18,true,de (aC br a0) Ak)
def wtZ (z:ia):Nat:=bj z.origin+jq x9 z.ki
def amh (z:ia):Prop:=wtZ z≤16777216
instance (z:ia):Decidable (amh z):=inferInstanceAs (Decidable (_≤_))
def aj2 (n top:Name):Bool:=decide (top.length<n.length) && z9 n top
def atV (z:ia) (n:Name):List bu:=z.ki.filter fun s=>tu s.owner n
def akx (n:Name) (b:Option Name):Bool:=match b with|none=>true|some m=>decide (n.length<m.length)
def akf (z:ia) (n:Name) (best:Option Name) (s:bu):Option Name:=
 if (decide ((s.type.toNat:Int)=2) && (aj2 s.owner z.origin && (z9 n s.owner && akx s.owner best)))=true then some s.owner else best
def ant (z:ia) (n:Name):Option Name:=z.ki.foldl (akf z n) none
def anl (z:ia) (n:Name):Bool:=z9 n z.origin && (tu n z.origin || z.ki.any fun s=>z9 s.owner n)
def aps (a b:UInt16):Int:=if (a.toNat:Int)<b.toNat then -1 else if (b.toNat:Int)<a.toNat then 1 else 0
def orV:List Int→Int
 | []=>0
 |a::r=>if a≠0 then a else orV r
noncomputable def ajz (a b:bu):Int:=orV [apq a.owner b.owner,aps a.type b.type]
noncomputable def adi (t:UInt16):List au→Bool
 |a::b::r=>if 0≤sm t a b then false else adi t (b::r)
 |_=>true
noncomputable def anm (z:ia) (i:Nat) (s:bu):Bool:=
 (match i with|0=>true|k+1=>match z.ki[k]? with|some a=>decide (¬ (ajz a s ≥ 0))|none=>true) && adi s.type s.data
def Y0 (i:Nat) (n:Name):Nat→List bu→Bool
 |_,[]=>false
 |k,o::r=>(decide (¬ (k:Int)=i) && tu o.owner n) || Y0 i n (k+1) r
def alp (z:ia) (i:Nat) (s:bu):Bool:=
 if ¬ (s.type.toNat:Int)=5 then true else if ¬ (s.data.length:Int)=1 then false else if tu s.owner z.origin=true then false else !Y0 i s.owner 0 z.ki
def am1 (s:bu):Bool:=if ¬ (s.cls.toNat:Int)=1 then false else if (s.type.toNat:Int)=0 then false else if (s.type.toNat:Int)=41 then false else !decide ((s.type.toNat:Int)=255)
def aoe (s:bu):Bool:=if ¬ (s.type.toNat:Int)=2 then true else match s.owner[0]? with|none=>true|some a=>!decide (a=aa8)
def apz (z:ia) (s:bu):Bool:=
 match ant z s.owner with
 |none=>true
 |some c=>if (s.type.toNat:Int)=1 then true else if (s.type.toNat:Int)=28 then true else if (s.type.toNat:Int)=2 then tu c s.owner else false
def aku (z:ia) (p:Nat × Nat) (s:bu):Nat × Nat:=
 if (s.type.toNat:Int)=6 then (p.1+1,if (tu s.owner z.origin && decide ((s.data.length:Int)=1))=true then p.2+1 else p.2) else p
def ai2 (z:ia):Nat × Nat:=z.ki.foldl (aku z) (0,0)
def Sv (b:Bool) (err e:Int):Int:=if e=0∧b=false then err else e
def D0 (err:Int) (p:Nat→bu→Bool):Nat→List bu→Int→Int
 |_,[],e=>e
 |i,s::r,e=>if e≠0 then e else D0 err p (i+1) r (Sv (p i s) err e)
def aj4 (l:List bu):Nat:=l.foldl (fun n s=>n+s.data.length) 0
noncomputable def ais:List bu→Int→Int
 | [],e=>e
 |s::r,e=>ais r (if e=0 then gz s else e)
noncomputable def T7 (z:ia):Int:=if db z.origin≠0 then db z.origin else ais z.ki (Sv (decide (aj4 z.ki≤2048)) 3 0)
def ao5 (z:ia) (l:List bu):Bool:=l.any fun s=>decide ((s.type.toNat:Int)=2) && tu s.owner z.origin
def aom (z:ia):Bool:=ao5 z z.ki
noncomputable def an7 (z:ia):Int:=D0 260 (anm z) 0 z.ki (T7 z)
noncomputable def am8 (z:ia):Int:=D0 261 (fun _ s=>am1 s) 0 z.ki (an7 z)
noncomputable def amg (z:ia):Int:=D0 262 (fun _ s=>z9 s.owner z.origin) 0 z.ki (am8 z)
noncomputable def al3 (z:ia):Int:=Sv (decide ((ai2 z).1=1) && decide ((ai2 z).2=1)) 263 (amg z)
noncomputable def ama (z:ia):Int:=Sv (aom z) 264 (al3 z)
noncomputable def amj (z:ia):Int:=D0 265 (alp z) 0 z.ki (ama z)
noncomputable def ani (z:ia):Int:=D0 266 (fun _ s=>aoe s) 0 z.ki (amj z)
noncomputable def amu (z:ia):Int:=D0 267 (fun _ s=>apz z s) 0 z.ki (ani z)
noncomputable def aad (z:ia):Int:=if T7 z≠0 then T7 z else amu z
end Go.Proofs.Ytgencolcibpcaaa
end
section
namespace Go.Proofs.Ytgencolcibpcaaa
open Go.Vm
theorem Z4:∀ a:List UInt8,Lib.compareBytes a a=0
 | []=>rfl
 |a::r=>by rw [Lib.compareBytes,if_neg (UInt8.lt_irrefl a),if_neg (UInt8.lt_irrefl a)];exact Z4 r
theorem Ns:∀ a b:List UInt8,Lib.compareBytes a b=0→a=b
 | [],[],_=>rfl
 | [],_::_,h=>by cases h
 |_::_,[],h=>by cases h
 |a::r,b::q,h=>by
  rw [Lib.compareBytes] at h
  split at h
  ·cases h
  ·rename_i h1
   split at h
   ·cases h
   ·rename_i h2
    rw [UInt8.lt_iff_toNat_lt] at h1 h2
    rw [UInt8.toNat_inj.1 (show a.toNat=b.toNat by omega),Ns r q h]
theorem Wh:∀ a b c:List UInt8,Lib.compareBytes a b<0→Lib.compareBytes b c<0→Lib.compareBytes a c<0
 |_,[],[],_,h=>by cases h
 |_,_::_,[],_,h=>by cases h
 | [],_,_::_,_,_=>by show (-1:Int)<0;decide
 |_::_,[],_::_,h,_=>by cases h
 |a::r,b::q,c::p,h1,h2=>by
  have ih:=Wh r q p
  rw [Lib.compareBytes] at h1 h2 ⊢
  simp only [UInt8.lt_iff_toNat_lt] at h1 h2 ⊢
  split at h1
  ·split at h2
   ·rw [if_pos (by omega)];decide
   ·split at h2
    ·cases h2
    ·rw [if_pos (by omega)];decide
  ·split at h1
   ·cases h1
   ·split at h2
    ·rw [if_pos (by omega)];decide
    ·split at h2
     ·cases h2
     ·rw [if_neg (by omega),if_neg (by omega)];exact ih h1 h2
theorem Hl:∀ a b:List UInt8,Lib.compareBytes a b = - Lib.compareBytes b a
 | [],[]=>rfl
 | [],_::_=>rfl
 |_::_,[]=>rfl
 |a::r,b::q=>by
  have ih:=Hl r q
  rw [Lib.compareBytes,Lib.compareBytes]
  simp only [UInt8.lt_iff_toNat_lt]
  by_cases h1:a.toNat<b.toNat
  ·rw [if_pos h1,if_neg (show ¬ b.toNat<a.toNat by omega),if_pos h1]
  ·by_cases h2:b.toNat<a.toNat
   ·rw [if_neg h1,if_pos h2,if_pos h2];rfl
   ·rw [if_neg h1,if_neg h2,if_neg h2,if_neg h1];exact ih
end Go.Proofs.Ytgencolcibpcaaa
end
namespace Go.Vm
def kj {α:Type} (lt : α → α→Bool) (x : α):List α→List α
 | []=>[x]
 |y::l=>bif lt x y then x::y::l else y::kj lt x l
def dt {α:Type} (lt : α → α→Bool):List α→List α:=List.foldl (fun acc x=>kj lt x acc) []
def fc {α:Type} (lt : α → α→Bool):List α→List α→List α
 | [],r=>r
 |x::l,[]=>x::l
 |x::l,y::r=>bif lt y x then y::fc lt (x::l) r else x::fc lt l (y::r)
termination_by l r=>l.length+r.length
structure s9 {α:Type} (lt : α → α→Bool) (V : α→Prop):Prop where
 ahj:∀ x y,V x→V y→lt x y=true→lt y x=false
 trans:∀ x y z,V x→V y→V z→lt y x=false→lt z y=false→lt z x=false
def i9 {α:Type} (lt : α → α→Bool) (l:List α):Prop:=l.Pairwise fun x y=>lt y x=false
theorem je {α:Type} {lt : α → α→Bool} (r:List α):fc lt [] r=r:=by rw [fc]
theorem ir {α:Type} {lt : α → α→Bool} (l:List α):fc lt l []=l:=by cases l<;>rw [fc]
theorem jo {α:Type} {lt : α → α→Bool} (x y : α) (l r:List α):fc lt (x::l) (y::r)=bif lt y x then y::fc lt (x::l) r else x::fc lt l (y::r):=by rw [fc]
theorem Ty {α:Type} {lt : α → α→Bool} {x z : α}:∀ {l:List α},z ∈ kj lt x l↔z=x∨z ∈ l
 | []=>by simp [kj]
 |y::l=>by
  rw [kj]
  cases lt x y with
  |true=>simp
  |false=>simp only [cond_false,List.mem_cons,Ty (l:=l)];constructor<;>(rintro (h|h|h)<;>simp [h])
theorem Qm {α:Type} {lt : α → α→Bool} {x : α}:∀ {l:List α},(kj lt x l).Perm (x::l)
 | []=>.refl _
 |y::l=>by
  rw [kj]
  cases lt x y with
  |true=>exact .refl _
  |false=>exact (List.Perm.cons y (Qm (l:=l))).trans (List.Perm.swap x y l)
theorem Px {α:Type} {lt : α → α→Bool}:dt lt []=[]:=rfl
theorem sx {α:Type} {lt : α → α→Bool} (l:List α) (x : α):dt lt (l++[x])=kj lt x (dt lt l):=by simp [dt,List.foldl_append]
theorem J5 {α:Type} {p:List α→Prop} (l:List α) (h0:p []) (h1:∀ l x,p l→p (l++[x])):p l:=by
 have key:∀ r:List α,p r.reverse:=fun r=>by
  induction r with
  |nil=>exact h0
  |cons a r ih=>rw [List.reverse_cons];exact h1 _ _ ih
 rw [← List.reverse_reverse l];exact key _
theorem Eg {α:Type} {lt : α → α→Bool} (l:List α):(dt lt l).Perm l:=by
 refine J5 (p:=fun l=>(dt lt l).Perm l) l (.refl _) fun l x ih=>?_
 rw [sx]
 exact Qm.trans ((List.Perm.cons x ih).trans (List.perm_append_singleton x l).symm)
theorem k8 {α:Type} {lt : α → α→Bool} {l:List α} {z : α}:z ∈ dt lt l↔z ∈ l:=(Eg l).mem_iff
theorem gv {α:Type} {lt : α → α→Bool} (l:List α):(dt lt l).length=l.length:=(Eg l).length_eq
theorem Cd {α:Type} {lt : α → α→Bool}:∀ (l r:List α),(fc lt l r).Perm (l++r)
 | [],r=>by rw [je];exact .refl _
 |x::l,[]=>by rw [ir,List.append_nil]
 |x::l,y::r=>by
  rw [jo]
  cases lt y x with
  |true=>exact (List.Perm.cons y (Cd (x::l) r)).trans (List.perm_middle (l₁:=x::l)).symm
  |false=>exact List.Perm.cons x (Cd l (y::r))
termination_by l r=>l.length+r.length
theorem aa9 {α:Type} {lt : α → α→Bool} (l r:List α):(fc lt l r).length=l.length+r.length:=by rw [(Cd l r).length_eq,List.length_append]
theorem s9.le_of_lt {α:Type} {lt : α → α→Bool} {V : α→Prop} (O:s9 lt V) {x y z : α} (hx:V x) (hy:V y) (hz:V z) (h:lt x y=true) (k:lt z y=false):lt z x=false:=O.trans x y z hx hy hz (O.ahj x y hx hy h) k
theorem Ks {α:Type} {lt : α → α→Bool} {V : α→Prop} (O:s9 lt V) {x : α} (hx:V x):∀ {l:List α},(∀ y ∈ l,V y)→i9 lt l→i9 lt (kj lt x l)
 | [],_,_=>by simp [kj,i9]
 |y::l,hV,h=>by
  have h1:=List.pairwise_cons.1 h
  have hy:=hV y List.mem_cons_self
  have hl:∀ z ∈ l,V z:=fun z hz=>hV z (List.mem_cons_of_mem _ hz)
  rw [kj]
  cases e:lt x y with
  |true=>
   rw [cond_true]
   refine List.pairwise_cons.2 ⟨fun z hz=>?_,h⟩
   rcases List.mem_cons.1 hz with rfl|hz
   ·exact O.ahj _ _ hx hy e
   ·exact O.le_of_lt hx hy (hl z hz) e (h1.1 z hz)
  |false=>
   rw [cond_false]
   refine List.pairwise_cons.2 ⟨fun z hz=>?_,Ks O hx hl h1.2⟩
   rcases Ty.1 hz with rfl|hz
   ·exact e
   ·exact h1.1 z hz
theorem ra {α:Type} {lt : α → α→Bool} {V : α→Prop} (O:s9 lt V) (l:List α) (hV:∀ y ∈ l,V y):i9 lt (dt lt l):=by
 revert hV
 refine J5 (p:=fun l=>(∀ y ∈ l,V y)→i9 lt (dt lt l)) l (fun _=>List.Pairwise.nil) fun l x ih hV=>?_
 rw [sx]
 exact Ks O (hV x (by simp)) (fun y hy=>hV y (by simp [k8.1 hy])) (ih fun y hy=>hV y (by simp [hy]))
theorem Bc {α:Type} {lt : α → α→Bool} {V : α→Prop} (O:s9 lt V) {x : α} (hx:V x):∀ (a b:List α),(∀ y ∈ a,V y)→(∀ y ∈ b,V y)→fc lt a (kj lt x b)=kj lt x (fc lt a b)
 | [],b,_,_=>by rw [je,je]
 |a::s,[],ha,hb=>by
  have ih:=Bc O hx s [] (fun y hy=>ha y (List.mem_cons_of_mem _ hy)) hb
  rw [ir] at ih ⊢
  rw [kj,jo,kj]
  cases lt x a with
  |true=>rw [cond_true,cond_true,ir]
  |false=>rw [cond_false,cond_false];rw [kj] at ih;rw [ih]
 |a::s,b::r,ha,hb=>by
  have va:=ha a List.mem_cons_self
  have vb:=hb b List.mem_cons_self
  have ih1:=Bc O hx s (b::r) (fun y hy=>ha y (List.mem_cons_of_mem _ hy)) hb
  have ih2:=Bc O hx (a::s) r ha (fun y hy=>hb y (List.mem_cons_of_mem _ hy))
  rw [jo]
  rw [kj] at ih1 ⊢
  cases e1:lt x b with
  |true=>
   rw [e1,cond_true] at ih1
   rw [cond_true,jo]
   cases e2:lt b a with
   |true=>
    have e3:lt x a=true:=by
     cases e3:lt x a with
     |true=>rfl
     |false=>
      have:=O.trans a x b va hx vb e3 (O.ahj _ _ hx vb e1)
      rw [e2] at this;cases this
    rw [e3,cond_true,cond_true,kj,e1,cond_true,jo,e2,cond_true]
   |false=>
    rw [cond_false,kj]
    cases e3:lt x a with
    |true=>rw [cond_true,cond_true,jo,e2,cond_false]
    |false=>rw [cond_false,cond_false,ih1]
  |false=>
   rw [e1,cond_false] at ih1
   rw [cond_false,jo]
   cases e2:lt b a with
   |true=>rw [cond_true,cond_true,kj,e1,cond_false,ih2]
   |false=>
    have e3:=O.trans a b x va vb hx e2 e1
    rw [cond_false,cond_false,kj,e3,cond_false,ih1]
termination_by a b=>a.length+b.length
theorem Kq {α:Type} {lt : α → α→Bool} {V : α→Prop} (O:s9 lt V) (a b:List α) (ha:∀ y ∈ a,V y) (hb:∀ y ∈ b,V y):fc lt (dt lt a) (dt lt b)=dt lt (a++b):=by
 revert hb
 refine J5 (p:=fun b=>(∀ y ∈ b,V y)→fc lt (dt lt a) (dt lt b)=dt lt (a++b)) b (fun _=>by rw [Px,ir,List.append_nil]) fun b x ih hb=>?_
 rw [sx,← List.append_assoc,sx,Bc O (hb x (by simp)) _ _ (fun y hy=>ha y (k8.1 hy)) (fun y hy=>hb y (by simp [k8.1 hy])),ih fun y hy=>hb y (by simp [hy])]
theorem Mj {α:Type} {lt : α → α→Bool} {x : α}:∀ (A B:List α),(∀ y ∈ A,lt x y=false)→(∀ y ∈ B.head?,lt x y=true)→kj lt x (A++B)=A++x::B
 | [],[],_,_=>rfl
 | [],b::B,_,h=>by rw [List.nil_append,kj,h b rfl];rfl
 |a::A,B,h,h2=>by rw [List.cons_append,kj,h a List.mem_cons_self,cond_false,Mj A B (fun y hy=>h y (List.mem_cons_of_mem _ hy)) h2];rfl
theorem mu {α:Type} {lt : α → α→Bool}:∀ (A B C D:List α),(∀ x ∈ A,∀ y ∈ D,lt y x=false)→(∀ x ∈ B,∀ y ∈ C,lt y x=true)→fc lt (A++B) (C++D)=fc lt A C++fc lt B D
 | [],B,[],D,_,_=>by rw [je];rfl
 | [],[],c::C,D,_,_=>by rw [List.append_nil,je,je,je]
 | [],b::B,c::C,D,h1,h2=>by
  have ih:=mu [] (b::B) C D (by simp) (fun x hx y hy=>h2 x hx y (List.mem_cons_of_mem _ hy))
  rw [List.nil_append,List.cons_append,jo,h2 b List.mem_cons_self c List.mem_cons_self,cond_true,je]
  rw [List.nil_append,je] at ih
  rw [ih];rfl
 |a::A,B,[],[],_,_=>by rw [List.append_nil,ir,ir,ir]
 |a::A,B,[],d::D,h1,h2=>by
  have ih:=mu A B [] (d::D) (fun x hx=>h1 x (List.mem_cons_of_mem _ hx)) (by simp)
  rw [List.nil_append,ir] at ih ⊢
  rw [List.cons_append,jo,h1 a List.mem_cons_self d List.mem_cons_self,cond_false,ih];rfl
 |a::A,B,c::C,D,h1,h2=>by
  have ih1:=mu A B (c::C) D (fun x hx=>h1 x (List.mem_cons_of_mem _ hx)) h2
  have ih2:=mu (a::A) B C D h1 (fun x hx y hy=>h2 x hx y (List.mem_cons_of_mem _ hy))
  rw [List.cons_append,List.cons_append,jo,jo]
  cases lt c a with
  |true=>rw [cond_true,cond_true];rw [List.cons_append] at ih2;rw [ih2];rfl
  |false=>rw [cond_false,cond_false];rw [List.cons_append] at ih1;rw [ih1];rfl
termination_by A _ C _=>A.length+C.length
theorem P5 {α:Type} {lt : α → α→Bool} {V : α→Prop} (O:s9 lt V) {A:List α} {x y : α} {D:List α} (hA:∀ z ∈ A++[x],V z) (hD:∀ z ∈ y::D,V z) (h1:i9 lt (A++[x])) (h2:i9 lt (y::D)) (h:lt y x=false):∀ a ∈ A++[x],∀ d ∈ y::D,lt d a=false:=by
 have k1:=List.pairwise_append.1 h1
 have k2:=List.pairwise_cons.1 h2
 intro a ha d hd
 have vx:=hA x (by simp)
 have vy:=hD y (by simp)
 have e1:lt y a=false:=by
  rcases List.mem_append.1 ha with q|q
  ·exact O.trans a x y (hA a ha) vx vy (k1.2.2 a q x (by simp)) h
  ·simp at q;subst q;exact h
 rcases List.mem_cons.1 hd with rfl|q
 ·exact e1
 ·exact O.trans a y d (hA a ha) vy (hD d hd) e1 (k2.1 d q)
theorem Ju {α:Type} {lt : α → α→Bool} {V : α→Prop} (O:s9 lt V) {B:List α} {x y : α} {C:List α} (hB:∀ z ∈ x::B,V z) (hC:∀ z ∈ C++[y],V z) (h1:i9 lt (x::B)) (h2:i9 lt (C++[y])) (h:lt y x=true):∀ b ∈ x::B,∀ c ∈ C++[y],lt c b=true:=by
 have k1:=List.pairwise_cons.1 h1
 have k2:=List.pairwise_append.1 h2
 intro b hb c hc
 have vx:=hB x (by simp)
 have vy:=hC y (by simp)
 cases e:lt c b with
 |true=>rfl
 |false=>
  have e1:lt y b=false:=by
   rcases List.mem_append.1 hc with q|q
   ·exact O.trans b c y (hB b hb) (hC c hc) vy e (k2.2.2 c q y (by simp))
   ·simp at q;subst q;exact e
  have e2:lt y x=false:=by
   rcases List.mem_cons.1 hb with rfl|q
   ·exact e1
   ·exact O.trans x b y vx (hB b hb) vy (k1.1 b q) e1
  rw [h] at e2;cases e2
def ja {α:Type} (lt : α → α→Bool) (k:Nat) (l:List α):List α:=
 if h:l.length≤k∨k=0 then dt lt l else dt lt (l.take k)++ja lt k (l.drop k)
termination_by l.length
decreasing_by simp at *;omega
theorem qo {α:Type} {lt : α → α→Bool} {k:Nat} {l:List α} (h:l.length≤k):ja lt k l=dt lt l:=by rw [ja,dif_pos (.inl h)]
theorem As {α:Type} {lt : α → α→Bool} {k:Nat} {l:List α} (hk : 0<k) (h:k≤l.length):ja lt k l=dt lt (l.take k)++ja lt k (l.drop k):=by
 by_cases e:l.length≤k
 ·have h1:l.take k=l:=List.take_of_length_le e
  have h2:l.drop k=[]:=List.drop_eq_nil_of_le e
  rw [h1,h2,qo e,qo (Nat.zero_le _),Px,List.append_nil]
 ·rw [ja,dif_neg (by omega)]
theorem ake {α:Type} {lt : α → α→Bool} {k:Nat} {l:List α} (hk : 0<k) (h:k+k≤l.length):ja lt k l=dt lt (l.take k)++(dt lt ((l.drop k).take k)++ja lt k (l.drop (k+k))):=by
 rw [As hk (by omega),As (l:=l.drop k) hk (by rw [List.length_drop];omega),List.drop_drop]
theorem aii {α:Type} {lt : α → α→Bool} {k:Nat} {l:List α} (hk : 0<k) (h:k<l.length) (h2:l.length≤k+k):ja lt k l=dt lt (l.take k)++dt lt (l.drop k):=by
 rw [As hk (by omega),qo (l:=l.drop k) (by rw [List.length_drop];omega)]
theorem ah6 {α:Type} {k:Nat} (l:List α):l.take k++(l.drop k).take k=l.take (k+k):=by rw [List.take_add]
theorem ap4 {α:Type} {lt : α → α→Bool} {k:Nat} {z : α} (hk : 0<k) (n:Nat):∀ l:List α,l.length≤n→(z ∈ ja lt k l↔z ∈ l):=by
 induction n with
 |zero=>intro l h;rw [qo (by omega),k8]
 |succ n ih=>
  intro l h
  by_cases e:l.length≤k
  ·rw [qo e,k8]
  ·rw [As hk (by omega),List.mem_append,k8,ih _ (by rw [List.length_drop];omega),← List.mem_append,List.take_append_drop]
theorem akm {α:Type} {lt : α → α→Bool} {k:Nat} (hk : 0<k) (n:Nat):∀ l:List α,l.length≤n→(ja lt k l).length=l.length:=by
 induction n with
 |zero=>intro l h;rw [qo (by omega),gv]
 |succ n ih=>
  intro l h
  by_cases e:l.length≤k
  ·rw [qo e,gv]
  ·rw [As hk (by omega),List.length_append,gv,ih _ (by rw [List.length_drop];omega),← List.length_append,List.take_append_drop]
theorem abo {α:Type} {lt : α → α→Bool} {V : α→Prop} (O:s9 lt V) {A:List α} {x y : α} (hA:∀ z ∈ A++[x],V z) (hy:V y) (h:i9 lt (A++[x])) (e:lt y x=false):∀ a ∈ A++[x],lt y a=false:=
 fun a ha=>P5 O (D:=[]) hA (by simpa using hy) h (by simp [i9]) e a ha y (by simp)
theorem k6 {α:Type} {l:List α} {i:Nat} {c : α} (h:l[i]? = some c):l.take (i+1)=l.take i++[c]:=by rw [List.take_add_one,h];rfl
theorem sb {α:Type} {l:List α} {i:Nat} {c : α} (h:l[i]? = some c):l.drop i=c::l.drop (i+1):=by
 obtain ⟨_,rfl⟩:=List.getElem?_eq_some_iff.1 h;exact List.drop_eq_getElem_cons _
theorem i9.take {α:Type} {lt : α → α→Bool} {l:List α} (h:i9 lt l) (i:Nat):i9 lt (l.take i):=List.Pairwise.sublist (List.take_sublist i l) h
theorem i9.drop {α:Type} {lt : α → α→Bool} {l:List α} (h:i9 lt l) (i:Nat):i9 lt (l.drop i):=List.Pairwise.sublist (List.drop_sublist i l) h
theorem Q8 {α:Type} {lt : α → α→Bool} {V : α→Prop} (O:s9 lt V) {l:List α} (hl:∀ z ∈ l,V z) (h:i9 lt l) {y : α} (hy:V y) {i:Nat} (hi:i≤l.length) (e:∀ c,0<i→l[i - 1]? = some c→lt y c=false):∀ a ∈ l.take i,lt y a=false:=by
 cases i with
 |zero=>intro a ha;simp at ha
 |succ i=>
  have hc:l[i]? = some l[i]:=List.getElem?_eq_getElem (by omega)
  have h1:=k6 hc
  intro a ha
  rw [h1] at ha
  exact abo O (fun z hz=>hl z (List.mem_of_mem_take (i:=i+1) (by rw [h1];exact hz))) hy (by rw [← h1];exact h.take _) (e _ (by omega) hc) a ha
theorem aeq {α:Type} {lt : α → α→Bool} {V : α→Prop} (O:s9 lt V) {l:List α} (hl:∀ z ∈ l,V z) (h:i9 lt l) {y : α} (hy:V y) {i:Nat} (e:∀ c,l[i]? = some c→lt y c=true):∀ a ∈ l.drop i,lt y a=true:=by
 intro a ha
 by_cases hi:i<l.length
 ·have hc:l[i]? = some l[i]:=List.getElem?_eq_getElem hi
  have h1:=sb hc
  rw [h1] at ha
  exact Ju O (C:=[]) (y:=y) (x:=l[i]) (B:=l.drop (i+1)) (fun z hz=>hl z (List.mem_of_mem_drop (i:=i) (by rw [h1];exact hz))) (by simpa using hy) (by rw [← h1];exact h.drop _) (by simp [i9]) (e _ hc) a ha y (by simp)
 ·rw [List.drop_eq_nil_of_le (by omega)] at ha;cases ha
theorem age {α:Type} {lt : α → α→Bool} {V : α→Prop} (O:s9 lt V) {l:List α} (hl:∀ z ∈ l,V z) (h:i9 lt l) {x : α} (hx:V x) {i:Nat} (hi:i≤l.length) (e:∀ c,0<i→l[i - 1]? = some c→lt c x=true):∀ a ∈ l.take i,lt a x=true:=by
 cases i with
 |zero=>intro a ha;simp at ha
 |succ i=>
  have hc:l[i]? = some l[i]:=List.getElem?_eq_getElem (by omega)
  have h1:=k6 hc
  intro a ha
  rw [h1] at ha
  exact Ju O (B:=[]) (x:=x) (C:=l.take i) (y:=l[i]) (by simpa using hx) (fun z hz=>hl z (List.mem_of_mem_take (i:=i+1) (by rw [h1];exact hz))) (by simp [i9]) (by rw [← h1];exact h.take _) (e _ (by omega) hc) x (by simp) a ha
theorem aen {α:Type} {lt : α → α→Bool} {x : α} {l:List α} {i:Nat} (h1:∀ a ∈ l.take i,lt a x=true) (h2:∀ c,l[i]? = some c→lt c x=false):fc lt [x] l=l.take i++x::l.drop i:=by
 have:=mu (lt:=lt) [] [x] (l.take i) (l.drop i) (by simp) (fun z hz y hy=>by simp at hz;subst hz;exact h1 y hy)
 rw [List.take_append_drop,List.nil_append,je] at this
 rw [this]
 congr 1
 cases hd:l.drop i with
 |nil=>rw [ir]
 |cons c r=>
  have hc:l[i]? = some c:=by rw [← List.head?_drop,hd];rfl
  rw [jo,h2 c hc,cond_false,je]
theorem acz {α:Type} {lt : α → α→Bool} {y : α} {l:List α} {i:Nat} (h1:∀ a ∈ l.take i,lt y a=false) (h2:∀ a ∈ l.drop i,lt y a=true):fc lt l [y]=l.take i++y::l.drop i:=by
 have:=mu (lt:=lt) (l.take i) (l.drop i) [y] [] (by simp) (fun z hz u hu=>by simp at hu;subst hu;exact h2 z hz)
 rw [List.take_append_drop,List.append_nil,ir] at this
 rw [this]
 have h3:=mu (lt:=lt) (l.take i) [] [] [y] (fun z hz u hu=>by simp at hu;subst hu;exact h1 z hz) (by simp)
 rw [List.append_nil,List.nil_append,ir,je] at h3
 rw [h3,List.append_assoc];rfl
end Go.Vm
section
namespace Go.Proofs.Ytgencolcibpcaaa
open Go.Vm
set_option maxRecDepth 2000000
theorem Uq (s:ByteArray):wl PP [] 0 (Try.f67.body.getD .skip) (dk PP Try.f67.results.toList (fun r st=>(r1 (bz .i64)).get true st.h r=some (gh s))) (cw 0 [ai.val false s]) (bk []):=by
 unfold Try.f67
 simp only [↓wR,RA,simprocAttr,TF,ae]
 unfold gh
 rw [bf];refine ⟨fun h=>?_,fun h=>?_⟩
 ·rw [if_pos (.inl (by omega))]
  simp only [↓wR,RA,simprocAttr,TF,ae,h]
 ·simp only [↓wR,RA,simprocAttr,TF,ae,h]
  rw [bf];refine ⟨fun h2=>?_,fun h2=>?_⟩
  ·rw [if_pos (.inr (by omega))]
   simp only [↓wR,RA,simprocAttr,TF,ae,h2]
  ·rw [if_neg (by omega)]
   simp only [↓wR,RA,simprocAttr,TF,ae,h2]
noncomputable def zp (x:ByteArray × Unit):Option AV:=some ((r1 (bz .i64)).E true (gh x.1))
set_option maxRecDepth 2000000 in
theorem Oe (x:ByteArray × Unit) (r:AV) (h:zp x=some r):bp PP 67 ((aC ai a0).E x) r:=by
 cases h
 exact az (ak.nil PP) Try.func67 (by kernel_rfl) (by kernel_rfl) (by kernel_rfl) (Nat.le_of_ble_eq_true (by kernel_rfl)) (r1 (bz .i64)) true (gh x.1) (Uq x.1)
noncomputable abbrev afc:Nat × Bool × (List AV→M AV):=(67,true,de (aC ai a0) zp)
theorem alq {c:UInt8} (h1:(65:Int)≤c.toNat) (h2:(c.toNat:Int)≤90):IntKind.u8.wrap ((c.toNat:Int)+32)=((low c).toNat:Int):=by
 have a1 : 65≤c:=by rw [UInt8.le_iff_toNat_le];simp;omega
 have a2:c≤90:=by rw [UInt8.le_iff_toNat_le];simp;omega
 have hlow:low c=c+32:=by simp [low,a1,a2]
 rw [hlow]
 simp [IntKind.wrap,IntKind.bits,IntKind.signed,UInt8.toNat_add]
theorem afy {c:UInt8} (h:¬ ((65:Int)≤c.toNat∧(c.toNat:Int)≤90)):low c=c:=by
 have:¬ (65≤c∧c≤90):=fun q=>h ⟨by have:=UInt8.le_iff_toNat_le.1 q.1;simp at this;omega,by have:=UInt8.le_iff_toNat_le.1 q.2;simp at this;omega⟩
 simp [low,this]
theorem X6 (s:ByteArray) (hs:s.size≤16777216):wl PP [] 0 (Try.f98.body.getD .skip) (dk PP Try.f98.results.toList (fun r st=>(r1 ai).get true st.h r=some (fold s))) (cw 0 [ai.val false s]) (bk []):=by
 have hl:s.data.toList.length=s.size:=by simp
 obtain ⟨F,hF⟩:∃ F,F=s.data.toList.map low:=⟨_,rfl⟩
 have hFl:F.length=s.size:=by rw [hF,List.length_map,hl]
 have hfold:fold s=⟨F.toArray⟩:=by unfold fold;rw [hF]
 rw [hfold]
 unfold Try.f98
 simp only [↓wR,RA,simprocAttr,TF,ae]
 refine fj [0,4,3] (fun (i:Nat)=>[.sc (.string s),.sc (.int .i64 (i)),.sl 0 0 i 1]) (fun i=>[some (.row ((F.take i).map (aw.val false)) 0 0 5)]) (fun i=>i≤s.size) (fun i=>s.size - i) 0 (Nat.zero_le _) (by simp only [↓wR,RA,simprocAttr,TF,ae];(refine jl.lax [] (by first|exact Nat.le_of_ble_eq_true rfl|(simp [cy];omega)) ?_ ?_<;>repeat' first|exact dx.nil|exact bt.nil|exact ek.same _|exact ek.nil _ _ _|exact ek.ml _ _|exact bt.refl _ _|apply dx.cons|apply bt.ghost|apply bt.same|apply bt.row)) ?_
 intro i hi
 simp only [↓wR,RA,simprocAttr,TF,ae]
 rw [bf];refine ⟨fun h=>?_,fun h=>?_⟩
 ·have hlt:i<s.size:=by omega
  obtain ⟨c,hc⟩:∃ c,s.data.toList[i]? = some c:=⟨_,List.getElem?_eq_getElem (by omega)⟩
  have hfc:F[i]? = some (low c):=by rw [hF,List.getElem?_map,hc];rfl
  have hnx:=k6 hfc
  have hll:(F.take i).length=i:=by rw [List.length_take];omega
  have hlim:i+1≤140737488355328:=by omega
  simp only [↓wR,RA,simprocAttr,TF,ae,h,hc];repeat (simp (disch:=omega) only [ah,cd,cf,cb,ca];try simp only [↓wR,RA,simprocAttr,TF,ae,h,hc])
  by_cases h1:(65:Int)≤c.toNat
  ·by_cases h2:(c.toNat:Int)≤90
   ·have d1:decide ((c.toNat:Int) ≥ 65)=true:=decide_eq_true h1
    have d2:decide ((c.toNat:Int)≤90)=true:=decide_eq_true h2
    have hw:=alq h1 h2
    simp only [↓wR,RA,simprocAttr,TF,ae,d1,d2,hw,hll,hlim];repeat (simp (disch:=omega) only [ah,cd,cf,cb,ca];try simp only [↓wR,RA,simprocAttr,TF,ae,d1,d2,hw,hll,hlim])
    refine ⟨i+1,hlt,by omega,by (first|rfl|trivial|omega|((try (simp (disch:=omega) only [ah]));(try (simp only [FB]));first|done|rfl|omega)),?_⟩
    rw [hnx,List.map_append];rfl
   ·have d1:decide ((c.toNat:Int) ≥ 65)=true:=decide_eq_true h1
    have d2:decide ((c.toNat:Int)≤90)=false:=decide_eq_false h2
    have hw:low c=c:=afy (fun q=>h2 q.2)
    simp only [↓wR,RA,simprocAttr,TF,ae,d1,d2,hll,hlim];repeat (simp (disch:=omega) only [ah,cd,cf,cb,ca];try simp only [↓wR,RA,simprocAttr,TF,ae,d1,d2,hll,hlim])
    refine ⟨i+1,hlt,by omega,by (first|rfl|trivial|omega|((try (simp (disch:=omega) only [ah]));(try (simp only [FB]));first|done|rfl|omega)),?_⟩
    rw [hnx,List.map_append,hw];rfl
  ·have d1:decide ((c.toNat:Int) ≥ 65)=false:=decide_eq_false h1
   have hw:low c=c:=afy (fun q=>h1 q.1)
   simp only [↓wR,RA,simprocAttr,TF,ae,d1,hll,hlim];repeat (simp (disch:=omega) only [ah,cd,cf,cb,ca];try simp only [↓wR,RA,simprocAttr,TF,ae,d1,hll,hlim])
   refine ⟨i+1,hlt,by omega,by (first|rfl|trivial|omega|((try (simp (disch:=omega) only [ah]));(try (simp only [FB]));first|done|rfl|omega)),?_⟩
   rw [hnx,List.map_append,hw];rfl
 ·have hin:F.take i=F:=List.take_of_length_le (by omega)
  have hii:i=F.length:=by omega
  rw [hin,hii]
  simp only [↓wR,RA,simprocAttr,TF,ae,h]
noncomputable def ug (x:ByteArray × Unit):Option AV:=if x.1.size≤16777216 then some ((r1 ai).E true (fold x.1)) else none
set_option maxRecDepth 2000000 in
theorem So (x:ByteArray × Unit) (r:AV) (h:ug x=some r):bp PP 98 ((aC ai a0).E x) r:=by
 by_cases hc:x.1.size≤16777216
 case neg=>simp only [ug,if_neg hc] at h;cases h
 simp only [ug,if_pos hc] at h
 cases h
 exact az (ak.nil PP) Try.func98 (by kernel_rfl) (by kernel_rfl) (by kernel_rfl) (Nat.le_of_ble_eq_true (by kernel_rfl)) (r1 ai) true (fold x.1) (X6 x.1 hc)
noncomputable abbrev agy:Nat × Bool × (List AV→M AV):=(98,true,de (aC ai a0) ug)
theorem ag0 (n:Name) (hn:bj n<17592186044416):wl PP [] 0 (Try.f68.body.getD .skip) (dk PP Try.f68.results.toList (fun r st=>(r1 (bz .i64)).get true st.h r=some (bj n:Int))) (cw 0 [aq.val false n]) (bk []):=by
 unfold Try.f68
 simp only [cx]
 simp only [↓wR,RA,simprocAttr,TF,ae]
 refine dm [0,3,4] (fun (i:Nat)=>[.vl false 1 (n.map (ai.val false)),.sc (.int .i64 (bj (n.take i))),.sc (.int .i64 (i))]) (fun _=>[]) (fun i=>i≤n.length∧bj (n.take i)≤bj n∧i<bj (n.take i)) (fun i=>n.length - i) 0 ⟨Nat.zero_le _,(iu n 0).1,by simp [bj]⟩ (by simp only [↓wR,RA,simprocAttr,TF,ae]<;>rfl) (by simp only [↓wR,RA,simprocAttr,TF,ae]<;>rfl) ?_
 rintro i ⟨hi,hle,hgt⟩
 simp only [↓wR,RA,simprocAttr,TF,ae]
 rw [bf];refine ⟨fun h=>?_,fun h=>?_⟩
 ·obtain ⟨c,hc,hd1,hlt⟩:=ey (decide_eq_true h)
  have hnx:=ze n i c hc
  have hle2:=(iu n (i+1)).1
  simp only [↓wR,RA,simprocAttr,TF,ae,h,hc];repeat (simp (disch:=omega) only [ah,cd,cf,cb,ca];try simp only [↓wR,RA,simprocAttr,TF,ae,h,hc])
  refine ⟨i+1,⟨hlt,hle2,by omega⟩,by omega,?_⟩
  rw [hnx];(first|rfl|trivial|omega|((try (simp (disch:=omega) only [ah]));(try (simp only [FB]));first|done|rfl|omega))
 ·have hin:n.take i=n:=List.take_of_length_le (by omega)
  rw [hin]
  simp only [↓wR,RA,simprocAttr,TF,ae,h]
noncomputable def wt (x:Name × Unit):Option AV:=if bj x.1<17592186044416 then some ((r1 (bz .i64)).E true ((bj x.1:Int))) else none
set_option maxRecDepth 2000000 in
theorem Ii (x:Name × Unit) (r:AV) (h:wt x=some r):bp PP 68 ((aC aq a0).E x) r:=by
 by_cases hc:bj x.1<17592186044416
 case neg=>simp only [wt,if_neg hc] at h;cases h
 simp only [wt,if_pos hc] at h
 cases h
 exact az (ak.nil PP) Try.func68 (by kernel_rfl) (by kernel_rfl) (by kernel_rfl) (Nat.le_of_ble_eq_true (by kernel_rfl)) (r1 (bz .i64)) true ((bj x.1:Int)) (ag0 x.1 hc)
noncomputable abbrev ae1:Nat × Bool × (List AV→M AV):=(68,true,de (aC aq a0) wt)
theorem adj (n:Name) (hn:bj n<17592186044416):wl PP [afc,ae1] 0 (Try.f33.body.getD .skip) (dk PP Try.f33.results.toList (fun r st=>(r1 (bz .i64)).get true st.h r=some (db n))) (cw 0 [aq.val false n]) (bk []):=by
 have hlen:n.length<bj n:=(iu n 0).2
 unfold Try.f33
 simp only [cx]
 simp only [↓wR,RA,simprocAttr,TF,ae]
 refine dm [0,3] (fun (i:Nat)=>[.vl false 1 (n.map (ai.val false)),.sc (.int .i64 (i))]) (fun _=>[]) (fun i=>i≤n.length∧nq (n.take i)=false) (fun i=>n.length - i) 0 ⟨Nat.zero_le _,rfl⟩ (by simp only [↓wR,RA,simprocAttr,TF,ae]<;>rfl) (by simp only [↓wR,RA,simprocAttr,TF,ae]<;>rfl) ?_
 rintro i ⟨hi,hb⟩
 simp only [↓wR,RA,simprocAttr,TF,ae]
 rw [bf];refine ⟨fun h=>?_,fun h=>?_⟩
 ·obtain ⟨c,hc,hd1,hlt⟩:=ey (decide_eq_true h)
  simp only [↓wR,RA,simprocAttr,TF,ae,h,hc,zp];repeat (simp (disch:=omega) only [ah,cd,cf,cb,ca];try simp only [↓wR,RA,simprocAttr,TF,ae,h,hc,zp])
  rw [dp];refine ⟨fun ⟨h2,e2⟩=>?_,fun ⟨h2,e2⟩=>?_⟩
  ·have hbad:=Fs n i c hc e2
   have hne:gh c=4:=by
    unfold gh at e2 ⊢
    split at e2
    ·rename_i q;rw [if_pos q]
    ·exact absurd rfl e2
   have hv:db n=4:=by unfold db;rw [if_pos hbad]
   simp only [↓wR,RA,simprocAttr,TF,ae,h2,hv,hne]
  ·simp only [↓wR,RA,simprocAttr,TF,ae,h2];repeat (simp (disch:=omega) only [ah,cd,cf,cb,ca];try simp only [↓wR,RA,simprocAttr,TF,ae,h2])
   refine ⟨i+1,⟨hlt,?_⟩,by omega,by (first|rfl|trivial|omega|((try (simp (disch:=omega) only [ah]));(try (simp only [FB]));first|done|rfl|omega))⟩
   rw [Fm n i c hc,hb];simpa using e2
 ·have hin:n.take i=n:=List.take_of_length_le (by omega)
  rw [hin] at hb
  simp only [↓wR,RA,simprocAttr,TF,ae,h,wt,hn]
  rw [bf];refine ⟨fun h3=>?_,fun h3=>?_⟩
  ·have hv:db n=5:=by unfold db;rw [hb,if_neg (by simp),if_pos (by omega)]
   simp only [↓wR,RA,simprocAttr,TF,ae,h3,hv]
  ·have hv:db n=0:=by unfold db;rw [hb,if_neg (by simp),if_neg (by omega)]
   simp only [↓wR,RA,simprocAttr,TF,ae,h3,hv]
noncomputable def wj (x:Name × Unit):Option AV:=if bj x.1<17592186044416 then some ((r1 (bz .i64)).E true (db x.1)) else none
set_option maxRecDepth 2000000 in
theorem Ca (x:Name × Unit) (r:AV) (h:wj x=some r):bp PP 33 ((aC aq a0).E x) r:=by
 by_cases hc:bj x.1<17592186044416
 case neg=>simp only [wj,if_neg hc] at h;cases h
 simp only [wj,if_pos hc] at h
 cases h
 exact az (ak.cons (aj Oe) (ak.cons (aj Ii) (ak.nil PP))) Try.func33 (by kernel_rfl) (by kernel_rfl) (by kernel_rfl) (Nat.le_of_ble_eq_true (by kernel_rfl)) (r1 (bz .i64)) true (db x.1) (adj x.1 hc)
noncomputable abbrev V6:Nat × Bool × (List AV→M AV):=(33,true,de (aC aq a0) wj)
noncomputable def k7:cq Shape:=z5 (js (bz .i64) (js (bz .i64) (js (bz .i64) (js (bz .i64) (bz .i64))))) (fun s=>(s.names,s.nums,s.texts,s.raw,s.size)) (fun p=>⟨p.1,p.2.1,p.2.2.2.2,p.2.2.1,p.2.2.2.1⟩) (fun _=>rfl) (fun _=>rfl)
theorem qj (l:Bool) (s:Shape):k7.val l s = .agg [.sc (.int .i64 s.names),.sc (.int .i64 s.nums),.sc (.int .i64 s.texts),.sc (.int .i64 s.raw),.sc (.int .i64 s.size)]:=id rfl
theorem fp (fr h) (a b c d e:Int):k7.fw fr h (.agg [.sc (.int .i64 a),.sc (.int .i64 b),.sc (.int .i64 c),.sc (.int .i64 d),.sc (.int .i64 e)])=some ⟨a,b,e,c,d⟩:=am6 k7 fr h ⟨a,b,e,c,d⟩
theorem amv (t:UInt16):wl PP [] 0 (Try.f69.body.getD .skip) (dk PP Try.f69.results.toList (fun r st=>(r2 k7 cp).get true st.h r=some (cg t,!kg t))) (cw 0 [b9.val false t]) (bk []):=by
 have hk:∀ n:Int,(t.toNat:Int)=n→n≠0→¬ (128≤n∧n≤255)→kg t=false:=by
  intro n h1 h2 h3
  unfold kg
  rw [h1]
  simp only [Bool.or_eq_false_iff,beq_eq_false_iff_ne,ne_eq,Bool.and_eq_false_iff,decide_eq_false_iff_not]
  exact ⟨h2,by omega⟩
 unfold Try.f69
 unfold cg
 simp only [↓wR,RA,simprocAttr,TF,ae]
 rw [ct];refine ⟨fun ⟨h0,e0⟩=>?_,fun ⟨h0,e0⟩=>?_⟩
 ·simp only [↓wR,RA,simprocAttr,TF,ae,h0,fp,hk _ e0 (by decide) (by decide)]
  rw [if_pos e0]
 rw [if_neg e0]
 simp only [↓wR,RA,simprocAttr,TF,ae,h0]
 rw [ct];refine ⟨fun ⟨h1,e1⟩=>?_,fun ⟨h1,e1⟩=>?_⟩
 ·simp only [↓wR,RA,simprocAttr,TF,ae,h1,fp,hk _ e1 (by decide) (by decide)]
  rw [if_pos e1]
 rw [if_neg e1]
 simp only [↓wR,RA,simprocAttr,TF,ae,h1]
 rw [ct];refine ⟨fun ⟨h2,e2⟩=>?_,fun ⟨h2,e2⟩=>?_⟩
 ·simp only [↓wR,RA,simprocAttr,TF,ae,h2,fp,hk _ e2 (by decide) (by decide)]
  rw [if_pos e2]
 rw [if_neg e2]
 simp only [↓wR,RA,simprocAttr,TF,ae,h2]
 rw [ct];refine ⟨fun ⟨h3,e3⟩=>?_,fun ⟨h3,e3⟩=>?_⟩
 ·simp only [↓wR,RA,simprocAttr,TF,ae,h3,fp,hk _ e3 (by decide) (by decide)]
  rw [if_pos e3]
 rw [if_neg e3]
 simp only [↓wR,RA,simprocAttr,TF,ae,h3]
 rw [ct];refine ⟨fun ⟨h4,e4⟩=>?_,fun ⟨h4,e4⟩=>?_⟩
 ·simp only [↓wR,RA,simprocAttr,TF,ae,h4,fp,hk _ e4 (by decide) (by decide)]
  rw [if_pos e4]
 rw [if_neg e4]
 simp only [↓wR,RA,simprocAttr,TF,ae,h4]
 rw [ct];refine ⟨fun ⟨h5,e5⟩=>?_,fun ⟨h5,e5⟩=>?_⟩
 ·simp only [↓wR,RA,simprocAttr,TF,ae,h5,fp,hk _ e5 (by decide) (by decide)]
  rw [if_pos e5]
 rw [if_neg e5]
 simp only [↓wR,RA,simprocAttr,TF,ae,h5]
 rw [ct];refine ⟨fun ⟨h6,e6⟩=>?_,fun ⟨h6,e6⟩=>?_⟩
 ·simp only [↓wR,RA,simprocAttr,TF,ae,h6,fp,hk _ e6 (by decide) (by decide)]
  rw [if_pos e6]
 rw [if_neg e6]
 simp only [↓wR,RA,simprocAttr,TF,ae,h6]
 rw [ct];refine ⟨fun ⟨h7,e7⟩=>?_,fun ⟨h7,e7⟩=>?_⟩
 ·simp only [↓wR,RA,simprocAttr,TF,ae,h7,fp,hk _ e7 (by decide) (by decide)]
  rw [if_pos e7]
 rw [if_neg e7]
 simp only [↓wR,RA,simprocAttr,TF,ae,h7]
 rw [ct];refine ⟨fun ⟨h8,e8⟩=>?_,fun ⟨h8,e8⟩=>?_⟩
 ·simp only [↓wR,RA,simprocAttr,TF,ae,h8,fp,hk _ e8 (by decide) (by decide)]
  rw [if_pos e8]
 rw [if_neg e8]
 simp only [↓wR,RA,simprocAttr,TF,ae,h8]
 rw [ct];refine ⟨fun ⟨h9,e9⟩=>?_,fun ⟨h9,e9⟩=>?_⟩
 ·simp only [↓wR,RA,simprocAttr,TF,ae,h9,fp,hk _ e9 (by decide) (by decide)]
  rw [if_pos e9]
 rw [if_neg e9]
 simp only [↓wR,RA,simprocAttr,TF,ae,h9]
 have hb:(!kg t)=(if (t.toNat:Int)=0 then false else if (t.toNat:Int)<128 then true else decide (255<(t.toNat:Int))):=by
  unfold kg
  rw [Bool.eq_iff_iff]
  split
  ·rename_i h;simp [h]
  ·split
   ·rename_i h1 h2;simp [h1];omega
   ·rename_i h1 h2;simp [h1];omega
 rw [hb]
 rw [dp];refine ⟨fun ⟨h10,e10⟩=>?_,fun ⟨h10,e10⟩=>?_⟩
 ·rw [if_neg e10]
  simp only [↓wR,RA,simprocAttr,TF,ae,h10]
  rw [bf];refine ⟨fun h11=>?_,fun h11=>?_⟩
  ·rw [if_pos h11]
   simp only [↓wR,RA,simprocAttr,TF,ae,h11,fp]
  ·rw [if_neg h11]
   simp only [↓wR,RA,simprocAttr,TF,ae,h11,fp]
 ·rw [if_pos e10]
  simp only [↓wR,RA,simprocAttr,TF,ae,h10,fp]
noncomputable def Tb (x:UInt16 × Unit):Option AV:=some ((r2 k7 cp).E true ((cg x.1,!kg x.1)))
set_option maxRecDepth 2000000 in
theorem J1 (x:UInt16 × Unit) (r:AV) (h:Tb x=some r):bp PP 69 ((aC b9 a0).E x) r:=by
 cases h
 exact az (ak.nil PP) Try.func69 (by kernel_rfl) (by kernel_rfl) (by kernel_rfl) (Nat.le_of_ble_eq_true (by kernel_rfl)) (r2 k7 cp) true ((cg x.1,!kg x.1)) (amv x.1)
noncomputable abbrev rOf:Nat × Bool × (List AV→M AV):=(69,true,de (aC b9 a0) Tb)
def tt (n:Int):UInt32:=if n=1 then 255 else if n=2 then 65535 else 4294967295
theorem ags (n:Int):wl PP [] 0 (Try.f90.body.getD .skip) (dk PP Try.f90.results.toList (fun r st=>(r1 bh).get true st.h r=some (tt n))) (cw 0 [(bz .i64).val false n]) (bk []):=by
 unfold tt
 unfold Try.f90
 simp only [↓wR,RA,simprocAttr,TF,ae]
 rw [ct];refine ⟨fun ⟨h0,e0⟩=>?_,fun ⟨h0,e0⟩=>?_⟩
 ·simp only [↓wR,RA,simprocAttr,TF,ae,h0]
  rw [if_pos e0];rfl
 rw [if_neg e0]
 simp only [↓wR,RA,simprocAttr,TF,ae,h0]
 rw [ct];refine ⟨fun ⟨h1,e1⟩=>?_,fun ⟨h1,e1⟩=>?_⟩
 ·simp only [↓wR,RA,simprocAttr,TF,ae,h1]
  rw [if_pos e1];rfl
 rw [if_neg e1]
 simp only [↓wR,RA,simprocAttr,TF,ae,h1]
 rfl
noncomputable def Tg (x:Int × Unit):Option AV:=some ((r1 bh).E true (tt x.1))
set_option maxRecDepth 2000000 in
theorem aca (x:Int × Unit) (r:AV) (h:Tg x=some r):bp PP 90 ((aC (bz .i64) a0).E x) r:=by
 cases h
 exact az (ak.nil PP) Try.func90 (by kernel_rfl) (by kernel_rfl) (by kernel_rfl) (Nat.le_of_ble_eq_true (by kernel_rfl)) (r1 bh) true (tt x.1) (ags x.1)
noncomputable abbrev aot:Nat × Bool × (List AV→M AV):=(90,true,de (aC (bz .i64) a0) Tg)
theorem acr (n:UInt32) (k:Int) (hk : 0≤k∧k≤4):wl PP [] 0 (Try.f97.body.getD .skip) (dk PP Try.f97.results.toList (fun r st=>(r1 (bw aw)).get false st.h r=some ((u3 n).drop (4 - k).toNat))) (cw 0 [bh.val false n,(bz .i64).val false k]) (bk []):=by
 unfold Try.f97
 simp only [↓wR,RA,simprocAttr,TF,ae]
 simp (disch:=omega) only [ah,cd,cf,cb,ca]
 have h4:(4 - k).toNat≤4:=by omega
 have hkk:k=0∨k=1∨k=2∨k=3∨k=4:=by omega
 simp only [↓wR,RA,simprocAttr,TF,ae,hk,h4]
 rcases hkk with rfl|rfl|rfl|rfl|rfl<;>first|rfl|(simp only [↓wR,RA,simprocAttr,TF,ae,K7];done)|(simp only [↓wR,RA,simprocAttr,TF,ae,K7,List.drop,List.take];rfl)
noncomputable def wo (x:UInt32 × Int × Unit):Option AV:=if 0≤x.2.1∧x.2.1≤4 then some ((r1 (bw aw)).E false (((u3 x.1).drop (4 - x.2.1).toNat))) else none
set_option maxRecDepth 2000000 in
theorem W5 (x:UInt32 × Int × Unit) (r:AV) (h:wo x=some r):bp PP 97 ((aC bh (aC (bz .i64) a0)).E x) r:=by
 by_cases hc : 0≤x.2.1∧x.2.1≤4
 case neg=>simp only [wo,if_neg hc] at h;cases h
 simp only [wo,if_pos hc] at h
 cases h
 exact az (ak.nil PP) Try.func97 (by kernel_rfl) (by kernel_rfl) (by kernel_rfl) (Nat.le_of_ble_eq_true (by kernel_rfl)) (r1 (bw aw)) false (((u3 x.1).drop (4 - x.2.1).toNat)) (acr x.1 x.2.1 hc)
noncomputable abbrev aj8:Nat × Bool × (List AV→M AV):=(97,true,de (aC bh (aC (bz .i64) a0)) wo)
theorem aki (s:ByteArray) (hs:s.size≤16777216):wl PP [] 0 (Try.f91.body.getD .skip) (dk PP Try.f91.results.toList (fun r st=>(r1 cp).get true st.h r=some (pd s))) (cw 0 [ai.val false s]) (bk []):=by
 unfold Try.f91
 simp only [↓wR,RA,simprocAttr,TF,ae]
 rw [bf];refine ⟨fun h1=>?_,fun h1=>?_⟩
 ·have hv:pd s=false:=by unfold pd;rw [Bool.and_eq_false_iff];right;rw [decide_eq_false_iff_not];omega
  simp only [↓wR,RA,simprocAttr,TF,ae,h1,hv]
 simp only [↓wR,RA,simprocAttr,TF,ae,h1]
 rw [bf];refine ⟨fun h2=>?_,fun h2=>?_⟩
 ·have hv:pd s=false:=by unfold pd;rw [Bool.and_eq_false_iff];right;rw [decide_eq_false_iff_not];omega
  simp only [↓wR,RA,simprocAttr,TF,ae,h2,hv]
 simp only [↓wR,RA,simprocAttr,TF,ae,h2]
 refine dm [0,3] (fun (i:Nat)=>[.sc (.string s),.sc (.int .i64 i)]) (fun _=>[]) (fun i=>i≤s.size∧s.data.toList.all w9=(s.data.toList.drop i).all w9) (fun i=>s.size - i) 0 ⟨Nat.zero_le _,rfl⟩ (by simp only [↓wR,RA,simprocAttr,TF,ae]<;>rfl) (by simp only [↓wR,RA,simprocAttr,TF,ae]<;>rfl) ?_
 rintro i ⟨hi,hR⟩
 simp only [↓wR,RA,simprocAttr,TF,ae]
 rw [bf];refine ⟨fun h=>?_,fun h=>?_⟩
 ·obtain ⟨c,hc⟩:∃ c,s.data.toList[i]? = some c:=⟨_,List.getElem?_eq_getElem (by simp;omega)⟩
  have hd:=Cp hc
  rw [hd,List.all_cons] at hR
  simp only [↓wR,RA,simprocAttr,TF,ae,h,hc];repeat (simp (disch:=omega) only [ah,cd,cf,cb,ca];try simp only [↓wR,RA,simprocAttr,TF,ae,h,hc])
  repeat' (rw [bf];refine ⟨fun h=>?_,fun h=>?_⟩<;>simp only [↓wR,RA,simprocAttr,TF,h,hc])
  all_goals first
   |(
    have ht:w9 c=false:=by (unfold w9;rw [decide_eq_false_iff_not];omega)
    rw [pd,hR,ht];rfl)
   |(
    have ht:w9 c=true:=by (unfold w9;rw [decide_eq_true_eq];omega)
    refine ⟨i+1,⟨by omega,by rw [hR,ht];simp⟩,by omega,by (first|rfl|trivial|omega|((try (simp (disch:=omega) only [ah]));(try (simp only [FB]));first|done|rfl|omega))⟩)
 ·have hdn:s.data.toList.drop i=[]:=List.drop_eq_nil_of_le (by simp;omega)
  rw [hdn,List.all_nil] at hR
  have hv:pd s=true:=by unfold pd;rw [hR,Bool.true_and,decide_eq_true_eq];omega
  simp only [↓wR,RA,simprocAttr,TF,ae,h,hv]
noncomputable def Lq (x:ByteArray × Unit):Option AV:=if x.1.size≤16777216 then some ((r1 cp).E true (pd x.1)) else none
set_option maxRecDepth 2000000 in
theorem ae0 (x:ByteArray × Unit) (r:AV) (h:Lq x=some r):bp PP 91 ((aC ai a0).E x) r:=by
 by_cases hc:x.1.size≤16777216
 case neg=>simp only [Lq,if_neg hc] at h;cases h
 simp only [Lq,if_pos hc] at h
 cases h
 exact az (ak.nil PP) Try.func91 (by kernel_rfl) (by kernel_rfl) (by kernel_rfl) (Nat.le_of_ble_eq_true (by kernel_rfl)) (r1 cp) true (pd x.1) (aki x.1 hc)
noncomputable abbrev ap3:Nat × Bool × (List AV→M AV):=(91,true,de (aC ai a0) Lq)
noncomputable def Hq (t:UInt16) (d:au):Bool:=if (t.toNat:Int)=257 then pd (d.texts.headD ⟨#[]⟩) else true
noncomputable def aaw (t:UInt16) (d:au):Bool:=if (t.toNat:Int)=16∧(d.texts.any fun x=>decide (255<x.size))=true then false else Hq t d
noncomputable def S2 (s:Shape) (t:UInt16) (d:au):Bool:=if (d.nums.any fun n=>decide ((tt s.size).toNat<n.toNat))=true then false else aaw t d
def me (s:Shape) (d:au):Prop:=((d.names.length:Int)≠s.names∨(d.nums.length:Int)≠s.nums)∨(0≤s.texts∧(d.texts.length:Int)≠s.texts)∨(s.texts<0∧(d.texts.length:Int)=0)∨(0≤s.raw∧(d.raw.length:Int)≠s.raw)
noncomputable def zn (s:Shape) (t:UInt16) (d:au):Bool:=open Classical in if me s d then false else S2 s t d
def Ly (s:Shape) (t:UInt16):Prop:=(t.toNat:Int)=257→s.texts=2
instance (s:Shape) (t:UInt16):Decidable (Ly s t):=inferInstanceAs (Decidable (_→_))
set_option maxHeartbeats 4000000 in
theorem ahx (s:Shape) (t:UInt16) (d:au) (hd:bg d) (h257:Ly s t):wl PP [aot,ap3] 0 (Try.f70.body.getD .skip) (dk PP Try.f70.results.toList (fun r st=>(r1 cp).get true st.h r=some (zn s t d))) (cw 0 [b9.val false t,k7.val false s,ag.val false d]) (bk []):=by
 obtain ⟨l1,l2,l3,l4⟩:=hd.lens
 have hbad:me s d→zn s t d=false:=fun h=>if_pos h
 have hok:¬ me s d→zn s t d=S2 s t d:=fun h=>if_neg h
 unfold Try.f70
 simp only [qj,dy,cx]
 have hg:∀ (L:SL) (P1:Prop),(P1→0<d.texts.length)→True:=fun _ _ _=>trivial
 simp only [↓wR,RA,simprocAttr,TF,ae]
 rw [dp];refine ⟨fun ⟨a1,e1⟩=>?_,fun ⟨a1,e1⟩=>?_⟩
 ·have hv:=hbad (.inl (.inl e1))
  simp only [↓wR,RA,simprocAttr,TF,ae,a1,hv]
 simp only [↓wR,RA,simprocAttr,TF,ae,a1]
 rw [dp];refine ⟨fun ⟨a2,e2⟩=>?_,fun ⟨a2,e2⟩=>?_⟩
 ·have hv:=hbad (.inl (.inr e2))
  simp only [↓wR,RA,simprocAttr,TF,ae,a2,hv]
 simp only [↓wR,RA,simprocAttr,TF,ae,a2]
 rw [bf];refine ⟨fun h3=>?_,fun h3=>?_⟩
 simp only [↓wR,RA,simprocAttr,TF,ae,h3]
 rw [dp];refine ⟨fun ⟨a3,e3⟩=>?_,fun ⟨a3,e3⟩=>?_⟩
 have hv:=hbad (.inr (.inl ⟨h3,e3⟩))
 simp only [↓wR,RA,simprocAttr,TF,ae,a3,hv]
 simp only [↓wR,RA,simprocAttr,TF,ae,a3]
 rw [bf];refine ⟨fun h4=>?_,fun h4=>?_⟩
 exfalso;omega
 simp only [↓wR,RA,simprocAttr,TF,ae,h4]
 rw [bf];refine ⟨fun h5=>?_,fun h5=>?_⟩
 simp only [↓wR,RA,simprocAttr,TF,ae,h5]
 rw [dp];refine ⟨fun ⟨a4,e4⟩=>?_,fun ⟨a4,e4⟩=>?_⟩
 have hv:=hbad (.inr (.inr (.inr ⟨h5,e4⟩)))
 simp only [↓wR,RA,simprocAttr,TF,ae,a4,hv]
 have hv:=hok (by unfold me;omega)
 have hp:(t.toNat:Int)=257→0<d.texts.length:=fun q=>by have:=h257 q;omega
 simp only [↓wR,RA,simprocAttr,TF,ae,a4]
 rotate_left
 have hv:=hok (by unfold me;omega)
 have hp:(t.toNat:Int)=257→0<d.texts.length:=fun q=>by have:=h257 q;omega
 simp only [↓wR,RA,simprocAttr,TF,ae,h5]
 rotate_left
 simp only [↓wR,RA,simprocAttr,TF,ae,h3]
 rw [bf];refine ⟨fun h4=>?_,fun h4=>?_⟩
 simp only [↓wR,RA,simprocAttr,TF,ae,h4]
 rw [ct];refine ⟨fun ⟨a3,e3⟩=>?_,fun ⟨a3,e3⟩=>?_⟩
 have hv:=hbad (.inr (.inr (.inl ⟨h4,e3⟩)))
 simp only [↓wR,RA,simprocAttr,TF,ae,a3,hv]
 simp only [↓wR,RA,simprocAttr,TF,ae,a3]
 rw [bf];refine ⟨fun h5=>?_,fun h5=>?_⟩
 simp only [↓wR,RA,simprocAttr,TF,ae,h5]
 rw [dp];refine ⟨fun ⟨a4,e4⟩=>?_,fun ⟨a4,e4⟩=>?_⟩
 have hv:=hbad (.inr (.inr (.inr ⟨h5,e4⟩)))
 simp only [↓wR,RA,simprocAttr,TF,ae,a4,hv]
 have hv:=hok (by unfold me;omega)
 have hp:(t.toNat:Int)=257→0<d.texts.length:=fun q=>by have:=h257 q;omega
 simp only [↓wR,RA,simprocAttr,TF,ae,a4]
 rotate_left
 have hv:=hok (by unfold me;omega)
 have hp:(t.toNat:Int)=257→0<d.texts.length:=fun q=>by have:=h257 q;omega
 simp only [↓wR,RA,simprocAttr,TF,ae,h5]
 rotate_left
 exfalso;omega
 all_goals
  rw [hv]
  clear hv hg hbad hok h257
  unfold S2
  refine dm [0,4,5,7] (fun (i:Nat)=>[.sc (.int .u16 t.toNat),.ptr 0 0,.ptr 1 0,.sc (.int .i64 (i))]) (fun _=>[some (.row [.sc (.int .i64 (s).names),.sc (.int .i64 (s).nums),.sc (.int .i64 (s).texts),.sc (.int .i64 (s).raw),.sc (.int .i64 (s).size)] 0 2 114),some (.row [.vl false 1 (d.names.map (aq.val false)),.vl false 1 (d.nums.map (bh.val false)),.vl false 1 (d.texts.map (ai.val false)),.vl false 1 (d.raw.map (aw.val false))] 0 2 47)]) (fun i=>i≤d.nums.length∧(d.nums.any fun n=>decide ((tt s.size).toNat<n.toNat))=((d.nums.drop i).any fun n=>decide ((tt s.size).toNat<n.toNat))) (fun i=>d.nums.length - i) 0 ⟨Nat.zero_le _,by rw [List.drop_zero]⟩ (by simp only [↓wR,RA,simprocAttr,TF,ae]<;>rfl) (by simp only [↓wR,RA,simprocAttr,TF,ae]<;>rfl) ?_
  rintro i ⟨hi,hR⟩
  simp only [↓wR,RA,simprocAttr,TF,ae]
  rw [bf];refine ⟨fun h=>?_,fun h=>?_⟩
  ·obtain ⟨c,hc,hd1,hlt⟩:=ey (decide_eq_true h)
   rw [hd1,List.any_cons] at hR
   simp only [↓wR,RA,simprocAttr,TF,ae,h]
   refine ⟨by kernel_rfl,.inl ?_⟩
   simp only [↓wR,RA,simprocAttr,TF,ae,hc,Tg]
   refine ⟨by kernel_rfl,?_⟩
   rw [bf];refine ⟨fun h6=>?_,fun h6=>?_⟩
   ·rw [if_pos (by rw [hR,decide_eq_true (by omega),Bool.true_or])]
    simp only [↓wR,RA,simprocAttr,TF,ae,h6]
   ·simp only [↓wR,RA,simprocAttr,TF,ae,h6];repeat (simp (disch:=omega) only [ah,cd,cf,cb,ca];try simp only [↓wR,RA,simprocAttr,TF,ae,h6])
    exact ⟨i+1,⟨hlt,by rw [hR,decide_eq_false (by omega),Bool.false_or]⟩,by omega,by (first|rfl|trivial|omega|((try (simp (disch:=omega) only [ah]));(try (simp only [FB]));first|done|rfl|omega))⟩
  rw [ij (decide_eq_false h),List.any_nil] at hR
  rw [if_neg (by rw [hR];decide)]
  simp only [↓wR,RA,simprocAttr,TF,ae,h]
  unfold aaw
  refine dm [0,5,8] (fun (i:Nat)=>[.sc (.int .u16 t.toNat),.ptr 0 0,.sc (.int .i64 (i))]) (fun _=>[some (.row [.vl false 1 (d.names.map (aq.val false)),.vl false 1 (d.nums.map (bh.val false)),.vl false 1 (d.texts.map (ai.val false)),.vl false 1 (d.raw.map (aw.val false))] 0 2 47)]) (fun i=>i≤d.texts.length∧(d.texts.any fun x=>decide (255<x.size))=((d.texts.drop i).any fun x=>decide (255<x.size))) (fun i=>d.texts.length - i) 0 ⟨Nat.zero_le _,by rw [List.drop_zero]⟩ (by simp only [↓wR,RA,simprocAttr,TF,ae]<;>rfl) (by simp only [↓wR,RA,simprocAttr,TF,ae]<;>rfl) ?_
  rintro i ⟨hi2,hR2⟩
  simp only [↓wR,RA,simprocAttr,TF,ae]
  rw [ct];refine ⟨fun ⟨h7,e7⟩=>?_,fun ⟨h7,e7⟩=>?_⟩
  ·simp only [↓wR,RA,simprocAttr,TF,ae,h7]
   rw [bf];refine ⟨fun h8=>?_,fun h8=>?_⟩
   ·obtain ⟨c,hc,hd1,hlt⟩:=ey (decide_eq_true h8)
    rw [hd1,List.any_cons] at hR2
    simp only [↓wR,RA,simprocAttr,TF,ae,h8,hc]
    rw [bf];refine ⟨fun h9=>?_,fun h9=>?_⟩
    ·rw [if_pos ⟨e7,by rw [hR2,decide_eq_true (by omega),Bool.true_or]⟩]
     simp only [↓wR,RA,simprocAttr,TF,ae,h9]
    ·simp only [↓wR,RA,simprocAttr,TF,ae,h9];repeat (simp (disch:=omega) only [ah,cd,cf,cb,ca];try simp only [↓wR,RA,simprocAttr,TF,ae,h9])
     exact ⟨i+1,⟨hlt,by rw [hR2,decide_eq_false (by omega),Bool.false_or]⟩,by omega,by (first|rfl|trivial|omega|((try (simp (disch:=omega) only [ah]));(try (simp only [FB]));first|done|rfl|omega))⟩
   ·rw [ij (decide_eq_false h8),List.any_nil] at hR2
    rw [if_neg (by rw [hR2];rintro ⟨_,q⟩;cases q)]
    have hv:Hq t d=true:=if_neg (by omega)
    rw [hv]
    simp only [↓wR,RA,simprocAttr,TF,ae,h8,e7]
  ·rw [if_neg (fun q=>e7 q.1)]
   simp only [↓wR,RA,simprocAttr,TF,ae,h7]
   rw [dp];refine ⟨fun ⟨h10,e10⟩=>?_,fun ⟨h10,e10⟩=>?_⟩
   ·have hv:Hq t d=true:=if_neg e10
    rw [hv]
    simp only [↓wR,RA,simprocAttr,TF,ae,h10]
   ·obtain ⟨c,hc⟩:∃ c,d.texts[0]? = some c:=⟨_,List.getElem?_eq_getElem (hp e10)⟩
    have hh:d.texts.headD ⟨#[]⟩=c:=by
     cases ht:d.texts with
     |nil=>rw [ht] at hc;cases hc
     |cons a l=>rw [ht] at hc;simpa using hc
    have hv:Hq t d=pd c:=by unfold Hq;rw [if_pos e10,hh]
    rw [hv]
    simp only [↓wR,RA,simprocAttr,TF,ae,h10,hc,Lq,hd.text c (List.mem_of_getElem? hc)]
noncomputable def Gi (x:UInt16 × Shape × au × Unit):Option AV:=if bg x.2.2.1∧Ly x.2.1 x.1 then some ((r1 cp).E true (zn x.2.1 x.1 x.2.2.1)) else none
set_option maxRecDepth 2000000 in
theorem abb (x:UInt16 × Shape × au × Unit) (r:AV) (h:Gi x=some r):bp PP 70 ((aC b9 (aC k7 (aC ag a0))).E x) r:=by
 by_cases hc:bg x.2.2.1∧Ly x.2.1 x.1
 case neg=>simp only [Gi,if_neg hc] at h;cases h
 simp only [Gi,if_pos hc] at h
 cases h
 exact az (ak.cons (aj aca) (ak.cons (aj ae0) (ak.nil PP))) Try.func70 (by kernel_rfl) (by kernel_rfl) (by kernel_rfl) (Nat.le_of_ble_eq_true (by kernel_rfl)) (r1 cp) true (zn x.2.1 x.1 x.2.2.1) (ahx x.2.1 x.1 x.2.2.1 hc.1 hc.2)
noncomputable abbrev aou:Nat × Bool × (List AV→M AV):=(70,true,de (aC b9 (aC k7 (aC ag a0))) Gi)
def uc (l:List Name):Nat:=(l.map bj).sum
def ub (t:UInt16):Nat→List ByteArray→Nat
 |_,[]=>0
 |i,x::r=>x.size+(if (t.toNat:Int)=16∨i=0 then 1 else 0)+ub t (i+1) r
theorem ajx (l:List Name):uc l≤jq bj l:=by
 induction l with
 |nil=>exact Nat.le_refl _
 |cons a l ih=>simp only [uc,List.map_cons,List.sum_cons,jq,List.foldr_cons] at ih ⊢;omega
theorem ajv (t:UInt16) (l:List ByteArray):∀ i,ub t i l≤jq ByteArray.size l:=by
 induction l with
 |nil=>intro i;exact Nat.le_refl _
 |cons a l ih=>
  intro i
  have:=ih (i+1)
  simp only [ub,jq,List.foldr_cons] at this ⊢
  split<;>omega
def C8 (s:Shape) (t:UInt16) (d:au):Int:=d.raw.length+d.nums.length * s.size+uc d.names+ub t 0 d.texts
theorem alc {l:List Name} {i:Nat} {c:Name} (h:l.drop i=c::l.drop (i+1)):uc (l.drop i)=bj c+uc (l.drop (i+1)):=by rw [h];simp [uc]
theorem akq {t:UInt16} {l:List ByteArray} {i:Nat} {c:ByteArray} (h:l.drop i=c::l.drop (i+1)):ub t i (l.drop i)=c.size+(if (t.toNat:Int)=16∨i=0 then 1 else 0)+ub t (i+1) (l.drop (i+1)):=by rw [h];rfl
set_option maxHeartbeats 4000000 in
theorem aft (s:Shape) (t:UInt16) (d:au) (hd:bg d) (hs : 0≤s.size∧s.size≤4):wl PP [ae1] 0 (Try.f71.body.getD .skip) (dk PP Try.f71.results.toList (fun r st=>(r1 (bz .i64)).get true st.h r=some (C8 s t d))) (cw 0 [b9.val false t,k7.val false s,ag.val false d]) (bk []):=by
 obtain ⟨l1,l2,l3,l4⟩:=hd.lens
 have hn:=ajx d.names
 have ht:=ajv t d.texts 0
 have hw:jq bj d.names+jq ByteArray.size d.texts≤16777216:=by unfold bg po at hd;omega
 have hm0 : 0≤(d.nums.length:Int) * s.size:=Int.mul_nonneg (by omega) hs.1
 have hm1:(d.nums.length:Int) * s.size≤d.nums.length * 4:=Int.mul_le_mul_of_nonneg_left hs.2 (by omega)
 have hz:C8 s t d=d.raw.length+d.nums.length * s.size+uc d.names+ub t 0 d.texts:=rfl
 obtain ⟨A,hA⟩:∃ A:Int,A=d.raw.length+d.nums.length * s.size:=⟨_,rfl⟩
 rw [hz,← hA]
 have hA0 : 0≤A∧A≤134217728:=by omega
 unfold Try.f71
 simp only [qj,dy,cx]
 simp only [↓wR,RA,simprocAttr,TF,ae]
 simp (disch:=omega) only [ah,cd,cf,cb,ca]
 rw [← hA]
 refine dm [0,5,7,8] (fun (i:Nat)=>[.sc (.int .u16 t.toNat),.ptr 0 0,.sc (.int .i64 (A+(uc d.names - uc (d.names.drop i):Nat))),.sc (.int .i64 (i))]) (fun _=>[some (.row [.vl false 1 (d.names.map (aq.val false)),.vl false 1 (d.nums.map (bh.val false)),.vl false 1 (d.texts.map (ai.val false)),.vl false 1 (d.raw.map (aw.val false))] 0 2 47)]) (fun i=>i≤d.names.length∧uc (d.names.drop i)≤uc d.names) (fun i=>d.names.length - i) 0 ⟨Nat.zero_le _,Nat.le_refl _⟩ (by simp only [↓wR,RA,simprocAttr,TF,ae]<;>first|rfl|(rw [List.drop_zero,Nat.sub_self,Int.add_zero])) (by simp only [↓wR,RA,simprocAttr,TF,ae]<;>rfl) ?_
 rintro i ⟨hi,hx⟩
 simp only [↓wR,RA,simprocAttr,TF,ae]
 rw [bf];refine ⟨fun h=>?_,fun h=>?_⟩
 ·obtain ⟨c,hc,hd1,hlt⟩:=ey (decide_eq_true h)
  have e1:=alc hd1
  have hnc:=hd.name c (List.mem_of_getElem? hc)
  simp only [↓wR,RA,simprocAttr,TF,ae,h,hc,wt,hnc.fit];repeat (simp (disch:=omega) only [ah,cd,cf,cb,ca];try simp only [↓wR,RA,simprocAttr,TF,ae,h,hc,wt,hnc.fit])
  exact ⟨i+1,⟨hlt,by omega⟩,by omega,by (first|rfl|trivial|omega|((try (simp (disch:=omega) only [ah]));(try (simp only [FB]));first|done|rfl|omega))⟩
 rw [ij (decide_eq_false h)]
 have e0:uc []=0:=rfl
 rw [e0,Nat.sub_zero]
 simp only [↓wR,RA,simprocAttr,TF,ae,h]
 refine dm [0,5,7,9] (fun (i:Nat)=>[.sc (.int .u16 t.toNat),.ptr 0 0,.sc (.int .i64 (A+uc d.names+(ub t 0 d.texts - ub t i (d.texts.drop i):Nat))),.sc (.int .i64 (i))]) (fun _=>[some (.row [.vl false 1 (d.names.map (aq.val false)),.vl false 1 (d.nums.map (bh.val false)),.vl false 1 (d.texts.map (ai.val false)),.vl false 1 (d.raw.map (aw.val false))] 0 2 47)]) (fun i=>i≤d.texts.length∧ub t i (d.texts.drop i)≤ub t 0 d.texts) (fun i=>d.texts.length - i) 0 ⟨Nat.zero_le _,Nat.le_refl _⟩ (by simp only [↓wR,RA,simprocAttr,TF,ae]<;>first|rfl|(rw [List.drop_zero,Nat.sub_self,Int.add_zero])) (by simp only [↓wR,RA,simprocAttr,TF,ae]<;>rfl) ?_
 rintro i ⟨hi,hx⟩
 simp only [↓wR,RA,simprocAttr,TF,ae]
 rw [bf];refine ⟨fun h2=>?_,fun h2=>?_⟩
 ·obtain ⟨c,hc,hd1,hlt⟩:=ey (decide_eq_true h2)
  have e1:=akq (t:=t) hd1
  simp only [↓wR,RA,simprocAttr,TF,ae,h2,hc];repeat (simp (disch:=omega) only [ah,cd,cf,cb,ca];try simp only [↓wR,RA,simprocAttr,TF,ae,h2,hc])
  rw [ct];refine ⟨fun ⟨h3,e3⟩=>?_,fun ⟨h3,e3⟩=>?_⟩
  ·rw [if_pos (.inl e3)] at e1
   simp only [↓wR,RA,simprocAttr,TF,ae,h3];repeat (simp (disch:=omega) only [ah,cd,cf,cb,ca];try simp only [↓wR,RA,simprocAttr,TF,ae,h3])
   exact ⟨i+1,⟨hlt,by omega⟩,by omega,by (first|rfl|trivial|omega|((try (simp (disch:=omega) only [ah]));(try (simp only [FB]));first|done|rfl|omega))⟩
  ·simp only [↓wR,RA,simprocAttr,TF,ae,h3]
   rw [ct];refine ⟨fun ⟨h4,e4⟩=>?_,fun ⟨h4,e4⟩=>?_⟩
   ·rw [if_pos (.inr (by omega))] at e1
    simp only [↓wR,RA,simprocAttr,TF,ae,h4];repeat (simp (disch:=omega) only [ah,cd,cf,cb,ca];try simp only [↓wR,RA,simprocAttr,TF,ae,h4])
    exact ⟨i+1,⟨hlt,by omega⟩,by omega,by (first|rfl|trivial|omega|((try (simp (disch:=omega) only [ah]));(try (simp only [FB]));first|done|rfl|omega))⟩
   ·rw [if_neg (by omega)] at e1
    simp only [↓wR,RA,simprocAttr,TF,ae,h4];repeat (simp (disch:=omega) only [ah,cd,cf,cb,ca];try simp only [↓wR,RA,simprocAttr,TF,ae,h4])
    exact ⟨i+1,⟨hlt,by omega⟩,by omega,by (first|rfl|trivial|omega|((try (simp (disch:=omega) only [ah]));(try (simp only [FB]));first|done|rfl|omega))⟩
 rw [ij (decide_eq_false h2)]
 have e1:ub t i []=0:=by cases i<;>rfl
 rw [e1,Nat.sub_zero]
 simp only [↓wR,RA,simprocAttr,TF,ae,h2]
noncomputable def Cm (x:UInt16 × Shape × au × Unit):Option AV:=if bg x.2.2.1∧(0≤x.2.1.size∧x.2.1.size≤4) then some ((r1 (bz .i64)).E true (C8 x.2.1 x.1 x.2.2.1)) else none
set_option maxRecDepth 2000000 in
theorem Xt (x:UInt16 × Shape × au × Unit) (r:AV) (h:Cm x=some r):bp PP 71 ((aC b9 (aC k7 (aC ag a0))).E x) r:=by
 by_cases hc:bg x.2.2.1∧(0≤x.2.1.size∧x.2.1.size≤4)
 case neg=>simp only [Cm,if_neg hc] at h;cases h
 simp only [Cm,if_pos hc] at h
 cases h
 exact az (ak.cons (aj Ii) (ak.nil PP)) Try.func71 (by kernel_rfl) (by kernel_rfl) (by kernel_rfl) (Nat.le_of_ble_eq_true (by kernel_rfl)) (r1 (bz .i64)) true (C8 x.2.1 x.1 x.2.2.1) (aft x.2.1 x.1 x.2.2.1 hc.1 hc.2)
noncomputable abbrev anj:Nat × Bool × (List AV→M AV):=(71,true,de (aC b9 (aC k7 (aC ag a0))) Cm)
theorem Rf (s:Shape):(⟨s.names,s.nums,s.size,s.texts,s.raw⟩:Shape)=s:=rfl
theorem xt (t:UInt16):((t.toNat:Int)=16∧(cg t).texts = -1∧(cg t).nums=0∧(cg t).size=0∧(cg t).raw=0)∨((t.toNat:Int)=257∧(cg t).texts=2∧(cg t).nums=1∧(cg t).size=1∧(cg t).raw=0) ∨
 ((t.toNat:Int)≠16∧(t.toNat:Int)≠257∧(cg t).texts=0∧(((cg t).size=0∧(cg t).nums=0)∨(cg t).size=2∨(cg t).size=4)∧((t.toNat:Int)=6→(cg t).raw=0)):=by
 unfold cg
 split
 ·exact .inr (.inr ⟨by omega,by omega,rfl,.inl ⟨rfl,rfl⟩,by omega⟩)
 split
 ·exact .inr (.inr ⟨by omega,by omega,rfl,.inl ⟨rfl,rfl⟩,by omega⟩)
 split
 ·exact .inr (.inr ⟨by omega,by omega,rfl,.inl ⟨rfl,rfl⟩,by omega⟩)
 split
 ·exact .inr (.inr ⟨by omega,by omega,rfl,.inl ⟨rfl,rfl⟩,by omega⟩)
 split
 ·exact .inr (.inr ⟨by omega,by omega,rfl,.inl ⟨rfl,rfl⟩,by omega⟩)
 split
 ·exact .inr (.inr ⟨by omega,by omega,rfl,.inr (.inr rfl),fun _=>rfl⟩)
 split
 ·exact .inr (.inr ⟨by omega,by omega,rfl,.inr (.inl rfl),by omega⟩)
 split
 ·exact .inr (.inr ⟨by omega,by omega,rfl,.inr (.inl rfl),by omega⟩)
 split
 ·exact .inl ⟨by assumption,rfl,rfl,rfl,rfl⟩
 split
 ·exact .inr (.inl ⟨by assumption,rfl,rfl,rfl,rfl⟩)
 ·exact .inr (.inr ⟨by omega,by omega,rfl,.inl ⟨rfl,rfl⟩,by omega⟩)
theorem Dz {α:Type} {p q : α→Bool}:∀ {l:List α},(∀ x ∈ l,p x=q x)→l.any p=l.any q
 | [],_=>rfl
 |a::l,h=>by rw [List.any_cons,List.any_cons,h a (by simp),Dz (fun x hx=>h x (by simp [hx]))]
theorem alj (s:Shape) (hs:s.size=0∨s.size=1∨s.size=2∨s.size=4) (l:List UInt32) (h0:s.size=0→l=[]):(s.size<4∧(l.any fun n=>decide (vh s≤(n.toNat:Int)))=true)↔(l.any fun n=>decide ((tt s.size).toNat<n.toNat))=true:=by
 have hb:∀ n:UInt32,n.toNat<4294967296:=fun n=>n.toNat_lt
 rcases hs with h|h|h|h
 ·rw [h0 h];simp
 ·have e1:vh s=256:=by unfold vh;rw [h];rfl
  have e2:(tt s.size).toNat=255:=by rw [h];rfl
  rw [e1,e2,Dz (q:=fun n=>decide (255<n.toNat)) (fun n _=>by rw [decide_eq_decide];omega)]
  exact ⟨fun q=>q.2,fun q=>⟨by omega,q⟩⟩
 ·have e1:vh s=65536:=by unfold vh;rw [h];rfl
  have e2:(tt s.size).toNat=65535:=by rw [h];rfl
  rw [e1,e2,Dz (q:=fun n=>decide (65535<n.toNat)) (fun n _=>by rw [decide_eq_decide];omega)]
  exact ⟨fun q=>q.2,fun q=>⟨by omega,q⟩⟩
 ·have e2:(tt s.size).toNat=4294967295:=by rw [h];rfl
  rw [e2]
  refine ⟨fun q=>by omega,fun q=>?_⟩
  obtain ⟨n,_,hn⟩:=List.any_eq_true.1 q
  have:=hb n
  simp at hn;omega
theorem Of (t:UInt16) (d:au):zn (cg t) t d=oy (cg t) t d:=by
 have hk:=xt t
 unfold zn oy S2 aaw Hq
 by_cases hb:(d.names.length:Int)≠(cg t).names∨(d.nums.length:Int)≠(cg t).nums∨(0≤(cg t).raw∧(d.raw.length:Int)≠(cg t).raw)
 ·rw [if_pos hb,if_pos (by unfold me;omega)]
 rw [if_neg hb]
 have hm:=alj (cg t) (by omega) d.nums (fun e=>List.eq_nil_of_length_eq_zero (by omega))
 by_cases hm1:(d.nums.any fun n=>decide ((tt (cg t).size).toNat<n.toNat))=true
 ·rw [if_pos (hm.2 hm1),if_pos hm1,ite_self]
 rw [if_neg (fun q=>hm1 (hm.1 q)),if_neg hm1]
 rcases hk with ⟨k1,k2,_⟩|⟨k1,k2,_⟩|⟨k1,k2,k3,_⟩
 ·rw [if_neg (show ¬ (t.toNat:Int)=257 by omega),if_neg (show ¬ (t.toNat:Int)=257 by omega),if_neg (show ¬ (cg t).texts=0 by omega)]
  by_cases hl:d.texts.length=0
  ·rw [if_pos (by unfold me;omega),decide_eq_false (by omega),Bool.false_and]
  ·rw [if_neg (by unfold me;omega),decide_eq_true (by omega),Bool.true_and]
   cases ha:(d.texts.any fun x=>decide (255<x.size)) with
   |true=>rw [if_pos ⟨k1,rfl⟩];rfl
   |false=>rw [if_neg (by rintro ⟨_,q⟩;cases q)];rfl
 ·rw [if_pos k1,if_pos k1]
  by_cases hl:d.texts.length=2
  ·rw [if_neg (show ¬ me (cg t) d by unfold me;omega),decide_eq_true hl,Bool.true_and,if_neg (fun q=>by have:=q.1;omega)]
  ·rw [if_pos (show me (cg t) d by unfold me;omega),decide_eq_false hl,Bool.false_and]
 ·rw [if_neg k2,if_neg k2,if_pos k3]
  by_cases hl:d.texts.length=0
  ·rw [if_neg (show ¬ me (cg t) d by unfold me;omega),decide_eq_true hl,if_neg (fun q=>by have:=q.1;omega)]
  ·rw [if_pos (show me (cg t) d by unfold me;omega),decide_eq_false hl]
theorem Ml:∀ {l:List Name},jd l=0→(l.flatMap jg).length=uc l
 | [],_=>rfl
 |n::l,h=>by
  unfold jd at h
  split at h
  ·exact absurd h (by assumption)
  ·rename_i h1
   have h2:db n=0:=by omega
   have h3:=qi n
   rw [List.flatMap_cons,List.length_append,Ml h]
   simp only [jg,h2,ne_eq,not_true,if_false,nameBytes,List.length_append,List.length_singleton,uc,List.map_cons,List.sum_cons]
   omega
theorem Ku (t:UInt16):∀ (l:List ByteArray) (i:Nat),(l8 t i l).length=ub t i l
 | [],i=>rfl
 |x::l,i=>by
  have:=Ku t l (i+1)
  have hx:x.data.toList.length=x.size:=by simp
  simp only [l8,ub,List.length_append,this,hx]
  split<;>simp<;>omega
theorem Nq (t:UInt16) (hs : 0≤(cg t).size∧(cg t).size≤4):∀ l:List UInt32,((l.flatMap (vp t)).length:Int)=l.length * (cg t).size
 | []=>by simp
 |n::l=>by
  have:=Nq t hs l
  have h1:((vp t n).length:Int)=(cg t).size:=by unfold vp;rw [List.length_drop,Br];omega
  rw [List.flatMap_cons,List.length_append,List.length_cons,Int.natCast_add,this,h1,Int.natCast_add,Int.add_mul]
  omega
theorem ahu (t:UInt16) (d:au) (hf:oy (cg t) t d=true) (hn:jd d.names=0):C8 (cg t) t d=((j8 t d).length:Int):=by
 have hk:=xt t
 have h1:=Nq t (vo t) d.nums
 have h2:=Ml hn
 have h3:=Ku t d.texts 0
 unfold C8 j8
 change ((rp t d).length:Int)=_ at h1
 change (n7 d).length=_ at h2
 change (nd t d).length=_ at h3
 split
 ·rename_i h6
  rw [← Of] at hf
  unfold zn at hf
  split at hf
  ·cases hf
  ·rename_i hb
   unfold me at hb
   have e1:d.texts=[]:=List.eq_nil_of_length_eq_zero (by omega)
   rw [e1]
   rw [List.length_append]
   have:ub t 0 []=0:=rfl
   omega
 ·simp only [List.length_append]
  omega
set_option maxHeartbeats 4000000 in
theorem Sl (t:UInt16) (d:au) (hd:bg d):wl PP [rOf,aou,V6,anj] 0 (Try.f34.body.getD .skip) (dk PP Try.f34.results.toList (fun r st=>(r1 (bz .i64)).get true st.h r=some (c9 t d))) (cw 0 [b9.val false t,ag.val false d]) (bk []):=by
 have hs:=vo t
 have hl:=hd.lens
 have h257:Ly (cg t) t:=fun e=>by have:=xt t;omega
 have hsz:=ahu t d
 unfold Try.f34
 simp only [dy,cx]
 simp only [↓wR,RA,simprocAttr,TF,ae,Tb,qj]
 unfold c9
 rw [fe];refine ⟨fun hb=>?_,fun hb=>?_⟩
 ·have hb':kg t=true:=by simpa using hb
  rw [if_pos hb']
  simp only [↓wR,RA,simprocAttr,TF,ae,hb]
 have hb':kg t=false:=by simpa using hb
 rw [if_neg (by rw [hb'];decide)]
 simp only [↓wR,RA,simprocAttr,TF,ae,hb,fp,Rf,Gi,hd,h257,Of]
 rw [fe];refine ⟨fun hf=>?_,fun hf=>?_⟩
 ·rw [if_pos (by simpa using hf)]
  simp only [↓wR,RA,simprocAttr,TF,ae,hf]
 have hf':oy (cg t) t d=true:=by simpa using hf
 rw [if_neg (by rw [hf'];decide)]
 simp only [↓wR,RA,simprocAttr,TF,ae,hf]
 refine dm [0,3,5,7] (fun (i:Nat)=>[.sc (.int .u16 t.toNat),.ptr 0 0,.ptr 1 0,.sc (.int .i64 (i))]) (fun _=>[some (.row [.vl false 1 (d.names.map (aq.val false)),.vl false 1 (d.nums.map (bh.val false)),.vl false 1 (d.texts.map (ai.val false)),.vl false 1 (d.raw.map (aw.val false))] 0 2 47),some (.row [.sc (.int .i64 (cg t).names),.sc (.int .i64 (cg t).nums),.sc (.int .i64 (cg t).texts),.sc (.int .i64 (cg t).raw),.sc (.int .i64 (cg t).size)] 0 2 114)]) (fun i=>i≤d.names.length∧jd d.names=jd (d.names.drop i)) (fun i=>d.names.length - i) 0 ⟨Nat.zero_le _,rfl⟩ (by simp only [↓wR,RA,simprocAttr,TF,ae]<;>rfl) (by simp only [↓wR,RA,simprocAttr,TF,ae]<;>rfl) ?_
 rintro i ⟨hi,hx⟩
 simp only [↓wR,RA,simprocAttr,TF,ae]
 rw [bf];refine ⟨fun h=>?_,fun h=>?_⟩
 ·obtain ⟨c,hc,hd1,hlt⟩:=ey (decide_eq_true h)
  rw [Jd hd1] at hx
  simp only [↓wR,RA,simprocAttr,TF,ae,h,hc,wj,(hd.name c (List.mem_of_getElem? hc)).fit]
  rw [fe];refine ⟨fun h1=>?_,fun h1=>?_⟩
  ·have he:db c≠0:=by simpa using h1
   rw [if_pos he] at hx
   rw [if_pos (by rw [hx];exact he),hx]
   simp only [↓wR,RA,simprocAttr,TF,ae,h1]
  ·have he:db c=0:=by simpa using h1
   rw [if_neg (by omega)] at hx
   simp only [↓wR,RA,simprocAttr,TF,ae,h1];repeat (simp (disch:=omega) only [ah,cd,cf,cb,ca];try simp only [↓wR,RA,simprocAttr,TF,ae,h1])
   exact ⟨i+1,⟨hlt,hx⟩,by omega,by (first|rfl|trivial|omega|((try (simp (disch:=omega) only [ah]));(try (simp only [FB]));first|done|rfl|omega))⟩
 rw [ij (decide_eq_false h)] at hx
 have hx0:jd d.names=0:=hx
 rw [if_neg (by rw [hx];decide)]
 simp only [↓wR,RA,simprocAttr,TF,ae,h,fp,Rf,Cm,hd,hs,hsz hf' hx0]
 rw [bf];refine ⟨fun h2=>?_,fun h2=>?_⟩
 ·rw [if_pos (by omega)]
  simp only [↓wR,RA,simprocAttr,TF,ae,h2]
 ·rw [if_neg (by omega)]
  simp only [↓wR,RA,simprocAttr,TF,ae,h2]
noncomputable def jx (x:UInt16 × au × Unit):Option AV:=if bg x.2.1 then some ((r1 (bz .i64)).E true (c9 x.1 x.2.1)) else none
set_option maxRecDepth 2000000 in
theorem oe (x:UInt16 × au × Unit) (r:AV) (h:jx x=some r):bp PP 34 ((aC b9 (aC ag a0)).E x) r:=by
 by_cases hc:bg x.2.1
 case neg=>simp only [jx,if_neg hc] at h;cases h
 simp only [jx,if_pos hc] at h
 cases h
 exact az (ak.cons (aj J1) (ak.cons (aj abb) (ak.cons (aj Ca) (ak.cons (aj Xt) (ak.nil PP))))) Try.func34 (by kernel_rfl) (by kernel_rfl) (by kernel_rfl) (Nat.le_of_ble_eq_true (by kernel_rfl)) (r1 (bz .i64)) true (c9 x.1 x.2.1) (Sl x.1 x.2.1 hc)
noncomputable abbrev vt:Nat × Bool × (List AV→M AV):=(34,true,de (aC b9 (aC ag a0)) jx)
end Go.Proofs.Ytgencolcibpcaaa
end
