/- A piece of the proof. Proved: where the arguments are together of bulk at most 1048576, the law ZoneTurns returns true (a zone with a set more, and without one), and what it was given reads afterwards as it did before. No other conditions. -/
import Derived.WalkKit
import Derived.CallsIn
import Derived.RangeFuncIn
import Derived.RangeFuncLeaves
import Derived.Orders
import Derived.OrdersIn
import Derived.Scope
import Derived.RangeFuncOwn
import Derived.Stop.SameAnswer
import Derived.Laws.Externs
import Derived.Lib.Bytealg
import Derived.ProofKit
import Derived.OpenShut
import Derived.ReadAgain
import Derived.Deep.Slices
import Derived.ChangeSame
import Derived.Test.YtgencolcibpcaaaGreatProg
import Derived.KernelRfl
import Derived.Test.YtgencolcibpcaaaGreatRows
import Derived.JoinedCond
import Derived.Test.YtgencolcibpcaaaGreatT2
set_option linter.unusedSimpArgs false
set_option linter.unusedVariables false
set_option linter.unusedSectionVars false
section
namespace Go.Vm
variable [TK]
noncomputable section
open Go.ChangeShapes Go.WideShapes Go.ChangeAt
mutual
def mg {H:Type}:DataW H→Nat
 |.lit (.string bytes)=>bytes.length+1
 |.lit _=>1
 |.nil=>1
 |.ptr d=>mg d+1
 |.slice elems spare=>nh elems+nh spare+1
 |.agg parts=>nh parts+1
 |.iface _ d=>mg d+1
 |.map entries=>U1 entries+1
 |.held _=>1
def nh {H:Type}:List (DataW H)→Nat
 | []=>0
 |d::r=>mg d+nh r
def U1 {H:Type}:List (Lit × DataW H)→Nat
 | []=>0
 |x::r=>anq x+U1 r
def anq {H:Type}:Lit × DataW H→Nat
 |(.string bytes,d)=>bytes.length+mg d+1
 |(_,d)=>mg d+1
end
def ad2 (W:World):Nat→Nat→Prop:=fun b _=>b<W.heap.size
def Rd (P:Program) (t:TypeId) {α:Type} (C:dm α) (μ : α→Nat):Prop:=
 ∀ {H:Type} (enc:TypeId × Value→H) (W:World) (b0 fuel:Nat) (cs:List Value) (x:DataW H × List MemPlace),DataW.trod enc P W 0 (fun _=>true) true fuel t cs=some x →
  ∃ y,cf (gK b0 (ad2 W)) W (C.cells false y) cs ∧ μ y≤mg x.1
theorem aA5 {P:Program} {t:TypeId} (ht:P.underlying t=some (.int .u8)):Rd P t bu (fun _=>1):=by
 intro H enc W b0 fuel cs x h
 obtain ⟨n,rfl,rfl,hw⟩:=DataW.trod_int ht h
 have hx : 0≤n∧n≤255:=by simpa [Lit.wf,IntKind.min,IntKind.max,IntKind.signed,IntKind.bits] using hw
 refine ⟨UInt8.ofNat n.toNat,?_,by simp [mg]⟩
 have:n=((UInt8.ofNat n.toNat).toNat:Int):=by rw [UInt8.toNat_ofNat'];omega
 exact cf.one (by (conv=>rhs;rw [this]);exact .sc _)
theorem ap3 {P:Program} {t:TypeId} (ht:P.underlying t=some (.int .u16)):Rd P t cg (fun _=>1):=by
 intro H enc W b0 fuel cs x h
 obtain ⟨n,rfl,rfl,hw⟩:=DataW.trod_int ht h
 have hx : 0≤n∧n≤65535:=by simpa [Lit.wf,IntKind.min,IntKind.max,IntKind.signed,IntKind.bits] using hw
 refine ⟨UInt16.ofNat n.toNat,?_,by simp [mg]⟩
 have:n=((UInt16.ofNat n.toNat).toNat:Int):=by rw [UInt16.toNat_ofNat'];omega
 exact cf.one (by (conv=>rhs;rw [this]);exact .sc _)
theorem ao3 {P:Program} {t:TypeId} (ht:P.underlying t=some (.int .u32)):Rd P t cw (fun _=>1):=by
 intro H enc W b0 fuel cs x h
 obtain ⟨n,rfl,rfl,hw⟩:=DataW.trod_int ht h
 have hx : 0≤n∧n≤4294967295:=Go.bounds_u32 hw
 refine ⟨UInt32.ofNat n.toNat,?_,by simp [mg]⟩
 have:n=((UInt32.ofNat n.toNat).toNat:Int):=by rw [UInt32.toNat_ofNat'];omega
 exact cf.one (by (conv=>rhs;rw [this]);exact .sc _)
theorem aAs {P:Program} {t:TypeId} (ht:P.underlying t=some .string):Rd P t aj (fun s=>s.size+1):=by
 intro H enc W b0 fuel cs x h
 obtain ⟨s,rfl,rfl,_⟩:=DataW.trod_string ht h
 refine ⟨s,cf.one (.sc _),?_⟩
 show s.size+1≤mg (DataW.lit (Lit.string s.data.toList))
 rw [mg,Array.length_toList]
 exact Nat.le_refl _
theorem ayc (ao k s v j:Nat) (h3:v=k * s) (hge:v≤j):ao+k * s+(j - v)=ao+j:=by rw [← h3];omega
def tk {α:Type} (μ : α→Nat):List α→Nat
 | []=>0
 |x::r=>μ x+tk μ r
theorem Pw {α:Type} (μ : α→Nat):∀ a b:List α,tk μ (a++b)=tk μ a+tk μ b
 | [],b=>by simp [tk]
 |x::a,b=>by simp [tk,Pw μ a b];omega
theorem Lu {H:Type}:∀ a b:List (DataW H),nh (a++b)=nh a+nh b
 | [],b=>by simp [nh]
 |x::a,b=>by simp [nh,Lu a b];omega
theorem axk {P:Program} {t e:TypeId} {α:Type} {C:dm α} {μ : α→Nat} (ht:P.underlying t=some (.slice e)) (hsz:P.cellsOf e=C.sz) (hpos : 0<C.sz) (he:Rd P e C μ):Rd P t (cq C) (fun l=>tk μ l+1):=by
 intro H enc W b0 fuel cs x h
 rcases Go.Deep.open_slice ht h with ⟨rfl,rfl⟩|⟨a,len,cap,m,n,D,Pl,rfl,_,hl,hm,hmm,rfl,hx⟩
 ·exact ⟨[],cf.one (.k8 _ _),by simp [tk,mg]⟩
 ·simp only [if_true] at hmm
  subst hmm
  have spot : 0<m→a.spot=none∧a.block<W.heap.size:=by
   intro h0
   obtain ⟨cs',h1,_⟩:=hx 0 h0
   rw [hsz] at h1
   simp only [World.cells?,Nat.zero_le,if_true] at h1
   have h2:=mapM_some_get h1 0 0 (by simp [hpos])
   have hlen:=mapM_some_length h1
   have h3:∃ v,cs'[0]? = some v:=⟨cs'[0]'(by rw [hlen];simpa using hpos),by simp⟩
   obtain ⟨v,hv⟩:=h3
   rw [hv] at h2
   simp only [Nat.zero_mul,Addr.add,if_true] at h2
   simp only [World.cell?] at h2
   split at h2
   ·rename_i c _ _ hb
    cases hs:a.spot with
    |none=>exact ⟨rfl,cb hb⟩
    |some s=>simp [hs] at h2
   ·cases h2
  have build:∀ k,k≤len→∃ (xs:List α) (vs:List Value),xs.length=k∧cf (gK b0 (ad2 W)) W (xs.flatMap (C.cells false)) vs∧vs.length=k * C.sz∧(∀ j v,vs[j]? = some v→W.cell? ⟨a.block,a.off+j,none⟩=some v) ∧
   tk μ xs≤nh ((List.range k).map D):=by
   intro k
   induction k with
   |zero=>intro _;exact ⟨[],[],rfl,cf.nil _ _,by simp,(fun j v hj=>by simp at hj),by simp [tk,nh]⟩
   |succ k ih=>
    intro hk
    obtain ⟨xs,vs,h1,h2,h3,h4,h5⟩:=ih (by omega)
    obtain ⟨cs',h6,h7⟩:=hx k (by omega)
    obtain ⟨y,h8,h9⟩:=he enc W b0 n cs' _ h7
    rw [hsz] at h6
    simp only [World.cells?,Nat.zero_le,if_true] at h6
    have hlen:=mapM_some_length h6
    simp only [List.length_range] at hlen
    refine ⟨xs++[y],vs++cs',by simp [h1],?_,by simp [h3,hlen,Nat.succ_mul],fun j v hj=>?_,?_⟩
    ·rw [List.flatMap_append];exact h2.append (by simpa using h8)
    ·by_cases hj1:j<vs.length
     ·rw [List.getElem?_append_left hj1] at hj;exact h4 j v hj
     ·rw [List.getElem?_append_right (by omega)] at hj
      have hj2:=(List.getElem?_eq_some_iff.1 hj).1
      have h10:=mapM_some_get h6 (j - vs.length) (j - vs.length) (List.getElem?_range (by rw [← hlen];exact hj2))
      rw [hj] at h10
      have hs:=(spot (by omega)).1
      have e:(a.add (k * C.sz)).add (j - vs.length)=⟨a.block,a.off+j,none⟩:=by
       obtain ⟨ab,ao,azs⟩:=a
       simp only at hs
       subst hs
       rw [Addr.od,Addr.od]
       have hge:vs.length≤j:=Nat.le_of_not_lt hj1
       rw [ayc ao k C.sz vs.length j h3 hge]
      rw [e] at h10
      exact h10
    ·rw [Pw,List.range_succ,List.map_append,Lu]
     simp only [tk,List.map_cons,List.map_nil,nh]
     have : μ y≤mg (D k):=h9
     omega
  obtain ⟨xs,vs,h1,h2,h3,h4,h5⟩:=build len (Nat.le_refl _)
  refine ⟨xs,cf.one ?_,by
   simp only [mg]
   have:tk μ xs≤nh ((List.range len).map D):=h5
   omega⟩
  by_cases h0 : 0<m
  ·obtain ⟨hs,hb⟩:=spot h0
   obtain ⟨ab,ao,azs⟩:=a
   simp only at hs hb h4
   subst hs
   rw [← h1]
   refine aob C h2 (by omega) (fun e=>by cases e) (fun j v hj=>⟨hb,h4 j v hj⟩) (fun e=>by cases e)
  ·have hl0:len=0:=by omega
   have hm0:m=0:=by omega
   subst hl0 hm0
   have:xs=[]:=List.eq_nil_of_length_eq_zero h1
   subst this
   exact .tq _ _ _
def Zj (P:Program) (fs:List Field) (off:Nat) {α:Type} (C:dm α) (μ : α→Nat):Prop:=
 ∀ {H:Type} (enc:TypeId × Value→H) (W:World) (b0 n:Nat) (cs:List Value) (ys:List (DataW H × List MemPlace)),ys.length=fs.length →
  (∀ (i:Nat) f,fs[i]? = some f→DataW.trod enc P W 0 (fun _=>true) true n f.type ((cs.drop f.offset).take (P.cellsOf f.type))=ys[i]?) →
  ∃ y,cf (gK b0 (ad2 W)) W (C.cells false y) ((cs.drop off).take C.sz) ∧ μ y≤nh (ys.map (·.1))
theorem ayr {P:Program} {f:Field} {off:Nat} {α:Type} {C:dm α} {μ : α→Nat} (ho:f.offset=off) (hs:P.cellsOf f.type=C.sz) (h:Rd P f.type C μ):Zj P [f] off C μ:=by
 intro H enc W b0 n cs ys hl hf
 match ys,hl with
 | [y0],_=>
  have:=hf 0 f rfl
  obtain ⟨y,h1,h2⟩:=h enc W b0 n _ y0 this
  rw [ho,hs] at h1
  exact ⟨y,h1,by simp [nh];exact h2⟩
theorem ate {P:Program} {f:Field} {fs:List Field} {off:Nat} {α β:Type} {A:dm α} {B:dm β} {μ : α→Nat} {ν : β→Nat} (ho:f.offset=off) (hs:P.cellsOf f.type=A.sz) (h:Rd P f.type A μ) (hr:Zj P fs (off+A.sz) B ν) :
 Zj P (f::fs) off (m4 A B) (fun p=>μ p.1 + ν p.2):=by
 intro H enc W b0 n cs ys hl hf
 match ys,hl with
 |y0::ys,hl=>
  have h0:=hf 0 f rfl
  obtain ⟨y,h1,h2⟩:=h enc W b0 n _ y0 h0
  obtain ⟨z,h3,h4⟩:=hr enc W b0 n cs ys (by simpa using hl) (fun i g hg=>by have:=hf (i+1) g (by simpa using hg);simpa using this)
  rw [ho,hs] at h1
  refine ⟨(y,z),?_,by simp [nh];omega⟩
  have:=h1.append h3
  rwa [show (cs.drop off).take A.sz++(cs.drop (off+A.sz)).take B.sz=(cs.drop off).take (A.sz+B.sz) from by
   rw [List.take_add,List.drop_drop]] at this
theorem arc {P:Program} {t:TypeId} {fs:Array Field} {α:Type} {C:dm α} {μ : α→Nat} (ht:P.underlying t=some (.struct fs)) (hc:P.cellsOf t=C.sz) (h:Zj P fs.toList 0 C μ):Rd P t C (fun x=>μ x+1):=by
 intro H enc W b0 fuel cs x hx
 obtain ⟨xs,n,_,rfl,hl,hlen,hf⟩:=DataW.trod_struct ht hx
 obtain ⟨y,h1,h2⟩:=h enc W b0 n cs xs (by simpa using hlen) (fun i f hi=>hf i f (by simpa using hi))
 refine ⟨y,?_,by simp [mg];exact h2⟩
 rwa [List.drop_zero,List.take_of_length_le (by omega)] at h1
theorem aAn {P:Program} {t:TypeId} {α β:Type} {C:dm α} {μ : α→Nat} {f : β → α} {i : α → β} {h1:∀ y,i (f y)=y} {h2:∀ x,f (i x)=x} (h:Rd P t C μ):Rd P t (Db C f i h1 h2) (fun y=>μ (f y)):=by
 intro H enc W b0 fuel cs x hx
 obtain ⟨y,h3,h4⟩:=h enc W b0 fuel cs x hx
 exact ⟨i y,by show cf _ _ (C.cells false (f (i y))) cs;rw [h2];exact h3,by show μ (f (i y))≤_;rw [h2];exact h4⟩
def RdA (P:Program) (ts:List TypeId) {α:Type} (A:AC α) (μ : α→Nat):Prop:=
 ∀ {H:Type} (enc:TypeId × Value→H) (W:World) (b0 b1:Nat) (vs:List Value) (ds:List (DataW H)) (ps:List MemPlace),(∀ (j:Nat) t v,ts[j]? = some t→vs[j]? = some v→Value.okWide P W .any b1 t v) →
  DataW.TrodAll enc P W 0 (fun _=>true) true ts vs ds ps→∃ y,cf (gK b0 (ad2 W)) W (A.E y) vs ∧ μ y≤nh ds
theorem ax6 (P:Program):RdA P [] a0 (fun _=>0):=by
 intro H enc W b0 b1 vs ds ps _ h
 obtain ⟨rfl,rfl,rfl⟩:=trodAll_nil h
 exact ⟨(),cf.nil _ _,Nat.zero_le _⟩
theorem amu {P:Program} {W:World} {b:Nat} {t:TypeId} {v:Value} (h:mz P t=some true) (ho:Value.okWide P W .any b t v):∃ cs,v = .agg cs:=by
 unfold mz at h
 unfold Value.okWide at ho
 cases hu:P.underlying t with
 |none=>rw [hu] at h;cases h
 |some d=>
  rw [hu] at h ho
  cases d<;>simp_all<;>exact ⟨_,ho.choose_spec.1⟩
theorem Jo {P:Program} {t:TypeId} {ts:List TypeId} {α β:Type} {C:dm α} {R:AC β} {μ : α→Nat} {ν : β→Nat} (ha:mz P t=some C.agg) (h:Rd P t C μ) (hr:RdA P ts R ν):RdA P (t::ts) (aC C R) (fun p=>μ p.1 + ν p.2):=by
 intro H enc W b0 b1 vs ds ps hok hall
 obtain ⟨v,vs1,d,ds1,p,q,rfl,rfl,rfl,h0,h1⟩:=trodAll_cons hall
 obtain ⟨fuel,hf⟩:=h0
 obtain ⟨y,h2,h3⟩:=h enc W b0 fuel _ _ hf
 obtain ⟨z,h4,h5⟩:=hr enc W b0 b1 vs1 ds1 q (fun j t v ht hv=>hok (j+1) t v (by simpa using ht) (by simpa using hv)) h1
 have h3' : μ y≤mg d:=h3
 refine ⟨(y,z),cf.cons ?_ h4,by simp only [nh];omega⟩
 have hv:=hok 0 t v rfl rfl
 show Rel _ _ (C.val false y) v
 unfold dm.val
 cases hg:C.agg with
 |true=>
  obtain ⟨cs,rfl⟩:=amu (by rw [ha,hg]) hv
  exact .agg _ cs (by simpa [Value.cells] using h2.1) (fun i a v ha hv=>h2.2 i a v ha (by simpa [Value.cells] using hv))
 |false=>
  obtain ⟨c,h6,h7,_⟩:=C.one hg false y
  rw [cond_false,h6]
  rw [h6] at h2
  have hcs:v.cells.toList=[v]:=by
   have hl:=h2.1
   simp only [List.length_singleton] at hl
   cases v with
   |agg cs=>
    exfalso
    unfold mz at ha
    unfold Value.okWide at hv
    cases hu:P.underlying t with
    |none=>rw [hu] at ha;cases ha
    |some d=>
     rw [hu] at ha hv
     have hcell:Cell.okWide P W .any b1 t (.agg cs):=by
      cases d<;>simp_all
     rw [hg] at ha
     unfold Cell.okWide Cell.ok at hcell
     rw [hu] at hcell
     cases d<;>simp_all
   |_=>rfl
  rw [hcs] at h2
  exact h2.head
theorem aeh {W W':World} (q:A6 W W') {p:MemPlace} (h:p.block<W.heap.size):W.sameAt W' p:=by
 cases p with
 |cell b off=>exact pf (q.heap b h)
 |map b=>exact q.heap b h
theorem again {H:Type} {enc:TypeId × Value→H} {P:Program} {W W':World} {sp:Nat→Bool} (K:Kids P (· < P.types.size)) (hz:∀ t e,t<P.types.size→P.underlying t=some (.slice e)→0<P.cellsOf e) (q:A6 W W') :
 ∀ {ts:List TypeId} {vs:List Value} {ds:List (DataW H)} {ps:List MemPlace},(∀ t ∈ ts,t<P.types.size)→DataW.TrodAll enc P W 0 (fun _=>true) true ts vs ds ps→(∀ p ∈ ps,sp p.block=true)→(∀ p ∈ ps,p.block<W.heap.size) →
  DataW.TrodAll enc P W' 0 sp true ts vs ds ps
 | [],[],[],_,_,h,_,_=>h
 |t::ts,v::vs,d::ds,ps,hT,⟨p,p',h1,h2,e⟩,hs,hl=>by
  obtain ⟨n,hn⟩:=h1
  subst e
  have h3:=DataW.trod_respare (spare':=sp) K hz n t _ _ (hT t (by simp)) hn (fun x hx=>hs x (by simp only [List.mem_append];exact .inl hx))
  have h4:=DataW.trod_carry (w':=W') n t _ _ h3 (fun x hx=>aeh q (hl x (by simp only [List.mem_append];exact .inl hx)))
  exact ⟨p,p',⟨n,h4⟩,again K hz q (fun t ht=>hT t (by simp [ht])) h2 (fun x hx=>hs x (by simp [hx])) (fun x hx=>hl x (by simp [hx])),rfl⟩
theorem aor {W W':World} (q:A6 W W') (may:MemPlace→Prop):W.keptBut W' may:=by
 refine ⟨q.os,q.output,fun i hi=>?_⟩
 rw [q.heap i hi]
 split
 ·rename_i c t fr c' t' fr' h1 h2
  rw [h1] at h2
  cases h2
  exact ⟨rfl,rfl,rfl,fun _ _=>rfl⟩
 ·rename_i es cl es' cl' h1 h2
  rw [h1] at h2
  cases h2
  exact .inr ⟨rfl,rfl⟩
 ·rfl
def al5 (P:Program):Bool:=(List.range P.types.size).all fun t=>match P.underlying t with|some (.slice e)=>Nat.blt 0 (P.cellsOf e)|_=>true
theorem aao {P:Program} (h:al5 P=true) (t e:TypeId) (ht:t<P.types.size) (hu:P.underlying t=some (.slice e)) : 0<P.cellsOf e:=by
 have:=List.all_eq_true.1 h t (List.mem_range.2 ht)
 simp only [hu] at this
 exact Nat.le_of_ble_eq_true this
def ax0 (P:Program) (l:List TypeId):Bool:=l.all fun t=>Nat.blt t P.types.size
theorem am7 {P:Program} {l:List TypeId} (h:ax0 P l=true):∀ t ∈ l,t<P.types.size:=fun t ht=>Nat.le_of_ble_eq_true (List.all_eq_true.1 h t ht)
theorem avq {P:Program} [KP P] (hlaid:laidOutB P=true) (hmaps:mapsRowed P=true) (hz:∀ t e,t<P.types.size→P.underlying t=some (.slice e)→0<P.cellsOf e) {f:Nat} {fn:Func} {s:ChangeSpec} {tb:TypeId}
 (he:po P f=true) (hvars:s.vars=[]) (hres:fn.resultTypes = #[tb]) (htb:P.underlying tb=some .bool) (hpar:∀ t ∈ fn.params.toList,t<P.types.size)
 (hfn:∀ (H:Type) (ds:List (DataW H)),ds.length=fn.params.toList.length→s.fn H ds = { results:=[.lit (.bool true)],args:=ds }) {α:Type} {A:AC α} {μ : α→Nat} (hA:RdA P fn.params.toList A μ) {N:Option Nat}
 (hcall:∀ x,(∀ n,N=some n → μ x≤n)→bk P f (A.E x) (.sc (.bool true)))
 {H:Type} (enc:TypeId × Value→H) (W:World) (base:Nat) (args:Array Value) (ds gs:List (DataW H)) (before:List MemPlace) (hval:∀ (j:Nat) t v,fn.params[j]? = some t→args[j]? = some v→Value.okWide P W .any base t v)
 (hW:DataW.Whole enc P fn.params.toList s.vars false W args.toList ds gs before) (hN:∀ n,N=some n→nh (ds++gs)≤n) :
 Calls P f args W fun e W'=>∃ v,e = .returned v∧s.post enc P fn false true false false W args v W':=by
 have hW':=hW
 obtain ⟨p,q,hA0,hV,rfl,hfz,hnd⟩:=hW
 rw [hvars] at hV
 obtain ⟨rfl,rfl⟩:=trodVars_none hV
 obtain ⟨x,hx,hμ⟩:=hA enc W W.heap.size base args.toList ds p (fun j t v ht hv=>hval j t v (by simpa using ht) (by simpa using hv)) hA0
 have hp:=hcall x (fun n hn=>Nat.le_trans hμ (by have:=hN n hn;simpa using this)) (ad2 W) W args.toList (fun _ _ h=>h) hx
 have hlen:ds.length=fn.params.toList.length:=by
  have:∀ {ts:List TypeId} {vs:List Value} {ds:List (DataW H)} {ps:List MemPlace},DataW.TrodAll enc P W 0 (fun _=>true) true ts vs ds ps→ds.length=ts.length:=by
   intro ts
   induction ts with
   |nil=>intro vs ds ps h;obtain ⟨_,rfl,_⟩:=trodAll_nil h;rfl
   |cons t ts ih=>intro vs ds ps h;obtain ⟨v,vs1,d,ds1,p,q,rfl,rfl,rfl,h0,h1⟩:=trodAll_cons h;simp [ih h1]
  exact this hA0
 have hlt:∀ y ∈ p++[],y.block<W.heap.size:=fun y hy=>hW'.lt y hy
 have hspec:=hfn H ds hlen
 rcases hp with ⟨v,hv,_⟩|⟨_,hc⟩
 ·rw [wx he] at hv;cases hv
 ·refine hc.mono ?_
  rintro e W' ⟨v,rfl,hq,hr⟩
  obtain rfl:=hr.exact rfl
  refine ⟨_,rfl,ds,[],p++[],[],p,[],hW',?_,?_,?_,aor hq _,fun e=>by cases e⟩
  ·rw [List.append_nil,hspec,hres]
   exact trodAll_cons_mk (Go.RowKit.shut_bool htb _) trodAll_mk0
  ·rw [List.append_nil,hspec]
   exact again (kids_rows hlaid hmaps) hz hq hpar hA0 (fun y hy=>by have:=hlt y (by simp [hy]);simpa using this) (fun y hy=>hlt y (by simp [hy]))
  ·rw [List.append_nil,hspec,hvars]
   rfl
end
end Go.Vm
end
namespace Go.Vm
noncomputable instance tkI:TK:=⟨dt Go.Proofs.Tryz.prog,au0 Go.Proofs.Tryz.prog⟩
instance kpI:KP Go.Proofs.Tryz.prog:=⟨rfl,rfl⟩
end Go.Vm
section
namespace Go.Vm
open Go.Proofs
theorem ar3:(Tryz.prog.underlying 3=some (.int .i64)) ∧
 (Tryz.prog.underlying 5=some (.int .u8)) ∧
 (Tryz.prog.underlying 9=some (.string)) ∧
 (Tryz.prog.underlying 22=some (.slice 31)) ∧
 (Tryz.prog.underlying 23=some (.slice 9)) ∧
 (Tryz.prog.underlying 24=some (.slice 9)) ∧
 (Tryz.prog.underlying 28=some (.int .u32)) ∧
 (Tryz.prog.underlying 29=some (.slice 101)) ∧
 (Tryz.prog.underlying 59=some (.slice 24)):=
 ⟨by kernel_rfl,by kernel_rfl,by kernel_rfl,by kernel_rfl,by kernel_rfl,by kernel_rfl,by kernel_rfl,by kernel_rfl,by kernel_rfl⟩
theorem aro:(Tryz.prog.underlying 98=some (.slice 28)) ∧
 (Tryz.prog.underlying 99=some (.slice 5)) ∧
 (Tryz.prog.underlying 141=some (.slice 3)) ∧
 (Tryz.prog.underlying 154=some (.slice 4)) ∧
 (Tryz.prog.underlying 195=some (.int .u64)) ∧
 (Tryz.prog.underlying 214=some (.slice 99)):=
 ⟨by kernel_rfl,by kernel_rfl,by kernel_rfl,by kernel_rfl,by kernel_rfl,by kernel_rfl⟩
theorem arw:(mz Tryz.prog 3=some false) ∧
 (mz Tryz.prog 4=some false) ∧
 (mz Tryz.prog 5=some false) ∧
 (mz Tryz.prog 9=some false) ∧
 (mz Tryz.prog 22=some false) ∧
 (mz Tryz.prog 23=some false) ∧
 (mz Tryz.prog 24=some false) ∧
 (mz Tryz.prog 26=some false):=
 ⟨by kernel_rfl,by kernel_rfl,by kernel_rfl,by kernel_rfl,by kernel_rfl,by kernel_rfl,by kernel_rfl,by kernel_rfl⟩
theorem ari:(mz Tryz.prog 27=some false) ∧
 (mz Tryz.prog 28=some false) ∧
 (mz Tryz.prog 29=some false) ∧
 (mz Tryz.prog 31=some true) ∧
 (mz Tryz.prog 41=some true) ∧
 (mz Tryz.prog 45=some false) ∧
 (mz Tryz.prog 59=some false) ∧
 (mz Tryz.prog 98=some false) ∧
 (mz Tryz.prog 99=some false) ∧
 (mz Tryz.prog 101=some true) ∧
 (mz Tryz.prog 109=some false):=
 ⟨by kernel_rfl,by kernel_rfl,by kernel_rfl,by kernel_rfl,by kernel_rfl,by kernel_rfl,by kernel_rfl,by kernel_rfl,by kernel_rfl,by kernel_rfl,by kernel_rfl⟩
theorem asl:(mz Tryz.prog 183=some true) ∧
 (mz Tryz.prog 198=some true):=
 ⟨by kernel_rfl,by kernel_rfl⟩
theorem akx:(dt Tryz.prog 3=some 1) ∧
 (dt Tryz.prog 4=some 1) ∧
 (dt Tryz.prog 5=some 1) ∧
 (dt Tryz.prog 9=some 1) ∧
 (dt Tryz.prog 22=some 1) ∧
 (dt Tryz.prog 23=some 1) ∧
 (dt Tryz.prog 24=some 1) ∧
 (dt Tryz.prog 26=some 1):=
 ⟨by kernel_rfl,by kernel_rfl,by kernel_rfl,by kernel_rfl,by kernel_rfl,by kernel_rfl,by kernel_rfl,by kernel_rfl⟩
theorem aj7:(dt Tryz.prog 27=some 1) ∧
 (dt Tryz.prog 28=some 1) ∧
 (dt Tryz.prog 29=some 1) ∧
 (dt Tryz.prog 31=some 5) ∧
 (dt Tryz.prog 41=some 2) ∧
 (dt Tryz.prog 45=some 1) ∧
 (dt Tryz.prog 59=some 1) ∧
 (dt Tryz.prog 98=some 1) ∧
 (dt Tryz.prog 99=some 1) ∧
 (dt Tryz.prog 101=some 4) ∧
 (dt Tryz.prog 109=some 1):=
 ⟨by kernel_rfl,by kernel_rfl,by kernel_rfl,by kernel_rfl,by kernel_rfl,by kernel_rfl,by kernel_rfl,by kernel_rfl,by kernel_rfl,by kernel_rfl,by kernel_rfl⟩
theorem akg:(dt Tryz.prog 183=some 5) ∧
 (dt Tryz.prog 198=some 5):=
 ⟨by kernel_rfl,by kernel_rfl⟩
theorem aey:(k9 Tryz.prog 4=some 1):=by kernel_rfl
theorem akb:(gi Tryz.prog 3=some (.int .i64 0)) ∧
 (gi Tryz.prog 4=some (.bool false)) ∧
 (gi Tryz.prog 5=some (.int .u8 0)) ∧
 (gi Tryz.prog 24=some (.slice none 0 0)):=
 ⟨by kernel_rfl,by kernel_rfl,by kernel_rfl,by kernel_rfl⟩
theorem aj1:(gi Tryz.prog 31=some (.agg #[.slice none 0 0,.int .u16 0,.int .u16 0,.int .u32 0,.slice none 0 0])) ∧
 (gi Tryz.prog 41=some (.agg #[.slice none 0 0,.slice none 0 0])) ∧
 (gi Tryz.prog 101=some (.agg #[.slice none 0 0,.slice none 0 0,.slice none 0 0,.slice none 0 0])):=
 ⟨by kernel_rfl,by kernel_rfl,by kernel_rfl⟩
theorem aks:(gi Tryz.prog 183=some (.agg #[.int .i64 0,.int .i64 0,.int .i64 0,.int .i64 0,.int .i64 0])) ∧
 (gi Tryz.prog 198=some (.agg #[.int .i64 0,.int .i64 0,.int .i64 0,.int .i64 0,.int .i64 0])):=
 ⟨by kernel_rfl,by kernel_rfl⟩
theorem aqv:(Dy Tryz.prog 22=some (31,5,[.sc (.slice none 0 0),.sc (.int .u16 0),.sc (.int .u16 0),.sc (.int .u32 0),.sc (.slice none 0 0)])) ∧
 (Dy Tryz.prog 23=some (9,1,[.sc (.string .empty)])) ∧
 (Dy Tryz.prog 24=some (9,1,[.sc (.string .empty)])) ∧
 (Dy Tryz.prog 29=some (101,4,[.sc (.slice none 0 0),.sc (.slice none 0 0),.sc (.slice none 0 0),.sc (.slice none 0 0)])) ∧
 (Dy Tryz.prog 59=some (24,1,[.sc (.slice none 0 0)])) ∧
 (Dy Tryz.prog 98=some (28,1,[.sc (.int .u32 0)])) ∧
 (Dy Tryz.prog 99=some (5,1,[.sc (.int .u8 0)])) ∧
 (Dy Tryz.prog 141=some (3,1,[.sc (.int .i64 0)])) ∧
 (Dy Tryz.prog 214=some (99,1,[.sc (.slice none 0 0)])):=
 ⟨by kernel_rfl,by kernel_rfl,by kernel_rfl,by kernel_rfl,by kernel_rfl,by kernel_rfl,by kernel_rfl,by kernel_rfl,by kernel_rfl⟩
theorem agf:(zv Tryz.prog 31=some ([.sc (.slice none 0 0),.sc (.int .u16 0),.sc (.int .u16 0),.sc (.int .u32 0),.sc (.slice none 0 0)],[(0,1),(1,1),(2,1),(3,1),(4,1)])) ∧
 (zv Tryz.prog 41=some ([.sc (.slice none 0 0),.sc (.slice none 0 0)],[(0,1),(1,1)])) ∧
 (zv Tryz.prog 101=some ([.sc (.slice none 0 0),.sc (.slice none 0 0),.sc (.slice none 0 0),.sc (.slice none 0 0)],[(0,1),(1,1),(2,1),(3,1)])) ∧
 (zv Tryz.prog 111=some ([.sc (.slice none 0 0),.sc (.slice none 0 0),.sc (.int .i64 0)],[(0,2),(2,1)])) ∧
 (zv Tryz.prog 183=some ([.sc (.int .i64 0),.sc (.int .i64 0),.sc (.int .i64 0),.sc (.int .i64 0),.sc (.int .i64 0)],[(0,1),(1,1),(2,1),(3,1),(4,1)])) ∧
 (zv Tryz.prog 198=some ([.sc (.int .i64 0),.sc (.int .i64 0),.sc (.int .i64 0),.sc (.int .i64 0),.sc (.int .i64 0)],[(0,1),(1,1),(2,1),(3,1),(4,1)])):=
 ⟨by kernel_rfl,by kernel_rfl,by kernel_rfl,by kernel_rfl,by kernel_rfl,by kernel_rfl⟩
theorem acs:(ik Tryz.prog 31 0=some ⟨"Owner",24,0,false, "", "",0⟩) ∧
 (ik Tryz.prog 31 1=some ⟨"Type",26,1,false, "", "",24⟩) ∧
 (ik Tryz.prog 31 2=some ⟨"Class",27,2,false, "", "",26⟩) ∧
 (ik Tryz.prog 31 3=some ⟨"TTL",28,3,false, "", "",28⟩) ∧
 (ik Tryz.prog 31 4=some ⟨"Data",29,4,false, "", "",32⟩):=
 ⟨by kernel_rfl,by kernel_rfl,by kernel_rfl,by kernel_rfl,by kernel_rfl⟩
theorem abt:(ik Tryz.prog 41 0=some ⟨"Origin",24,0,false, "", "",0⟩) ∧
 (ik Tryz.prog 41 1=some ⟨"Sets",22,1,false, "", "",24⟩) ∧
 (ik Tryz.prog 101 0=some ⟨"Names",59,0,false, "", "",0⟩) ∧
 (ik Tryz.prog 101 1=some ⟨"Nums",98,1,false, "", "",24⟩) ∧
 (ik Tryz.prog 101 2=some ⟨"Texts",23,2,false, "", "",48⟩) ∧
 (ik Tryz.prog 101 3=some ⟨"Raw",99,3,false, "", "",72⟩) ∧
 (ik Tryz.prog 111 0=some ⟨"z",41,0,false, "", "nomenclator/zone",0⟩) ∧
 (ik Tryz.prog 111 1=some ⟨"e",45,2,false, "", "nomenclator/zone",48⟩):=
 ⟨by kernel_rfl,by kernel_rfl,by kernel_rfl,by kernel_rfl,by kernel_rfl,by kernel_rfl,by kernel_rfl,by kernel_rfl⟩
theorem aex:(ik Tryz.prog 183 0=some ⟨"Names",3,0,false, "", "",0⟩) ∧
 (ik Tryz.prog 183 1=some ⟨"Nums",3,1,false, "", "",8⟩) ∧
 (ik Tryz.prog 183 2=some ⟨"Texts",3,2,false, "", "",16⟩) ∧
 (ik Tryz.prog 183 3=some ⟨"Raw",3,3,false, "", "",24⟩) ∧
 (ik Tryz.prog 183 4=some ⟨"Wide",3,4,false, "", "",32⟩):=
 ⟨by kernel_rfl,by kernel_rfl,by kernel_rfl,by kernel_rfl,by kernel_rfl⟩
theorem afg:(ik Tryz.prog 198 0=some ⟨"names",3,0,false, "", "nomenclator/rdata",0⟩) ∧
 (ik Tryz.prog 198 1=some ⟨"nums",3,1,false, "", "nomenclator/rdata",8⟩) ∧
 (ik Tryz.prog 198 2=some ⟨"size",3,2,false, "", "nomenclator/rdata",16⟩) ∧
 (ik Tryz.prog 198 3=some ⟨"texts",3,3,false, "", "nomenclator/rdata",24⟩) ∧
 (ik Tryz.prog 198 4=some ⟨"raw",3,4,false, "", "nomenclator/rdata",32⟩):=
 ⟨by kernel_rfl,by kernel_rfl,by kernel_rfl,by kernel_rfl,by kernel_rfl⟩
theorem aqm:(Ca Tryz.prog 22=some (31,5,56)) ∧
 (Ca Tryz.prog 23=some (9,1,16)) ∧
 (Ca Tryz.prog 24=some (9,1,16)) ∧
 (Ca Tryz.prog 29=some (101,4,96)) ∧
 (Ca Tryz.prog 59=some (24,1,24)) ∧
 (Ca Tryz.prog 98=some (28,1,4)) ∧
 (Ca Tryz.prog 99=some (5,1,1)):=
 ⟨by kernel_rfl,by kernel_rfl,by kernel_rfl,by kernel_rfl,by kernel_rfl,by kernel_rfl,by kernel_rfl⟩
theorem awc:(∀ kd,Nk 5 kd 31=true) ∧
 (Nk 1 .str 9=true) ∧
 (∀ kd,Nk 4 kd 101=true) ∧
 (Nk 1 .no 24=true) ∧
 (Nk 1 (.int .u32) 28=true) ∧
 (Nk 1 (.int .u8) 5=true):=
 ⟨fun _=>by kernel_rfl,by kernel_rfl,fun _=>by kernel_rfl,by kernel_rfl,by kernel_rfl,by kernel_rfl⟩
theorem TF:type_of% ar3∧type_of% aro∧type_of% arw∧type_of% ari∧type_of% asl∧type_of% akx∧type_of% aj7∧type_of% akg∧type_of% aey∧type_of% akb∧type_of% aj1∧type_of% aks∧type_of% aqv∧type_of% agf∧type_of% acs∧type_of% abt∧type_of% aex∧type_of% afg∧type_of% aqm∧type_of% awc:=
 ⟨ar3,aro,arw,ari,asl,akx,aj7,akg,aey,akb,aj1,aks,aqv,agf,acs,abt,aex,afg,aqm,awc⟩
end Go.Vm
end
section
namespace Go.Proofs.YtgencolcibpcaaaGreat
open Go.Vm
noncomputable abbrev PP:=Tryz.prog
theorem mixed:PP.follows .mixedOrders=true:=by kernel_rfl
theorem ay {T:ff} (hT:ar PP T) {f:Nat} {fn:Func} (hf:PP.funcs[f]? = some fn) (hb:fn.body.isSome=true) (he:po PP f=true) (hs:ek fn.ntmps (fn.body.getD .skip)=true)
 {args:List AV} (hl:args.length≤fn.ntmps) {ρ:Type} (R:RC ρ) (fr:Bool) (x : ρ)
 (h:wl PP T 0 (fn.body.getD .skip) (da PP fn.results.toList (fun r st=>R.get fr st.h r=some x)) (cj 0 args) (bj [])):bk PP f args (R.E fr x):=
 Wg (body:=fn.body.getD .skip) hT mixed hf (by cases hq:fn.body with|none=>rw [hq] at hb;cases hb|some b=>rfl) he hs hl R fr x h
def i6 (s:ByteArray):Int:=if s.size<1∨63<s.size then 4 else 0
theorem aau (s:ByteArray):wl PP [] 0 (Tryz.f159.body.getD .skip) (da PP Tryz.f159.results.toList (fun r st=>(r1 (bh .i64)).get true st.h r=some (i6 s))) (cj 0 [aj.val false s]) (bj []):=by
 unfold Tryz.f159
 simp only [↓wR,RA,simprocAttr,TF]
 rw [di]
 refine ⟨fun h=>?_,fun h=>?_⟩
 ·have h1:s.size<1:=by simp at h;omega
  simp only [↓wR,RA,simprocAttr,TF,i6,h,h1,true_or]
 ·have h1:¬ s.size<1:=by simp at h;omega
  simp only [↓wR,RA,simprocAttr,TF,h]
  rw [di]
  refine ⟨fun h=>?_,fun h=>?_⟩
  ·have h2 : 63<s.size:=by simp at h;omega
   simp only [↓wR,RA,simprocAttr,TF,i6,h2,or_true]
  ·have h2:¬ 63<s.size:=by simp at h;omega
   simp only [↓wR,RA,simprocAttr,TF,i6,h1,h2,or_self]
noncomputable def G9 (x:ByteArray × Unit):Option AV:=some ((r1 (bh .i64)).E true (i6 x.1))
set_option maxRecDepth 2000000 in
theorem T8 (x:ByteArray × Unit) (r:AV) (h:G9 x=some r):bk PP 159 ((aC aj a0).E x) r:=by
 cases h
 exact ay (ar.nil PP) Tryz.func159 (by kernel_rfl) (by kernel_rfl) (by kernel_rfl) (Nat.le_of_ble_eq_true (by kernel_rfl)) (r1 (bh .i64)) true (i6 x.1) (aau x.1)
noncomputable abbrev amw:Nat × Bool × (List AV→M AV):=(159,true,c8 (aC aj a0) G9)
def ca (n:Name):Nat:=n.foldl (fun k s=>k+(s.size+1)) 1
theorem aa6 (l:Name) (c:ByteArray):ca (l++[c])=ca l+(c.size+1):=by simp [ca]
theorem Dz (n:Name) (i:Nat) (c:ByteArray) (h:n[i]? = some c):ca (n.take (i+1))=ca (n.take i)+(c.size+1):=by
 obtain ⟨hk,rfl⟩:=List.getElem?_eq_some_iff.1 h
 rw [List.take_succ_eq_append_getElem hk,aa6]
theorem Dx (l:Name):∀ k,l.foldl (fun k s=>k+(s.size+1)) k=k+l.foldl (fun k s=>k+(s.size+1)) 0:=by
 induction l with
 |nil=>intro k;simp
 |cons a l ih=>intro k;simp only [List.foldl_cons];rw [ih,ih (0+_)];omega
theorem ru (a b:Name):ca (a++b)+1=ca a+ca b:=by
 simp only [ca,List.foldl_append]
 rw [Dx b,Dx b 1];omega
theorem j8 (n:Name) (i:Nat):ca (n.take i)≤ca n∧n.length<ca n:=by
 constructor
 ·have:=ru (n.take i) (n.drop i)
  rw [List.take_append_drop] at this
  have h1 : 1≤ca (n.drop i):=by simp only [ca];rw [Dx];omega
  omega
 ·induction n with
  |nil=>simp [ca]
  |cons a l ih=>
   have:=ru [a] l
   simp only [List.singleton_append] at this
   have h1:ca [a]=a.size+2:=by simp [ca];omega
   simp only [List.length_cons]
   omega
theorem wrap_i64 (x:Int) (h0 : -9223372036854775808≤x) (h1:x<9223372036854775808):IntKind.i64.wrap x=x:=by
 simp [IntKind.wrap,IntKind.bits,IntKind.signed];omega
theorem aiy (n:Name) (hn:ca n<17592186044416):wl PP [] 0 (Tryz.f160.body.getD .skip) (da PP Tryz.f160.results.toList (fun r st=>(r1 (bh .i64)).get true st.h r=some (ca n:Int))) (cj 0 [au.val false n]) (bj []):=by
 unfold Tryz.f160
 rw [cr]
 simp only [↓wR,RA,simprocAttr,TF]
 refine c7 [3,6,7,8] (fun (x:Nat)=>[.sc (.int .i64 (ca (n.take x))),.vl false 1 (n.map (aj.val false)),.sc (.int .i64 n.length),.sc (.int .i64 x)]) (fun _=>[]) (fun x=>x≤n.length) (fun x=>n.length - x) 0 (Nat.zero_le _) ?_ ?_ ?_
 ·simp only [↓wR,RA,simprocAttr,TF]<;>rfl
 ·simp only [↓wR,RA,simprocAttr,TF]
 ·intro i hi
  have h1:=j8 n i
  simp only [↓wR,RA,simprocAttr,TF]
  rw [di]
  refine ⟨fun h=>?_,fun h=>?_⟩
  ·have h4:i<n.length:=by simp at h;omega
   obtain ⟨c,hc⟩:∃ c,n[i]? = some c:=⟨n[i],by simp [h4]⟩
   have h2:=Dz n i c hc
   have h3:=(j8 n (i+1)).1
   simp only [↓wR,RA,simprocAttr,TF,hc]
   refine ⟨i+1,by omega,by omega,?_⟩
   rw [h2]
   simp only [List.cons.injEq,and_true,true_and,AV.sc.injEq,Value.int.injEq]
   refine ⟨?_,?_⟩
   ·rw [wrap_i64 ((c.size:Int)+1) (by omega) (by omega),wrap_i64 _ (by omega) (by omega)];omega
   ·rw [wrap_i64 _ (by omega) (by omega)];omega
  ·have h4:i=n.length:=by simp at h;omega
   subst h4
   simp only [↓wR,RA,simprocAttr,TF,List.take_length]
noncomputable def zt (x:Name × Unit):Option AV:=if ca x.1<17592186044416 then some ((r1 (bh .i64)).E true ((ca x.1:Int))) else none
set_option maxRecDepth 2000000 in
theorem Wq (x:Name × Unit) (r:AV) (h:zt x=some r):bk PP 160 ((aC au a0).E x) r:=by
 by_cases hc:ca x.1<17592186044416
 case neg=>simp only [zt,if_neg hc] at h;cases h
 simp only [zt,if_pos hc] at h
 cases h
 exact ay (ar.nil PP) Tryz.func160 (by kernel_rfl) (by kernel_rfl) (by kernel_rfl) (Nat.le_of_ble_eq_true (by kernel_rfl)) (r1 (bh .i64)) true ((ca x.1:Int)) (aiy x.1 hc)
noncomputable abbrev aq3:Nat × Bool × (List AV→M AV):=(160,true,c8 (aC au a0) zt)
def rm (n:Name):Bool:=n.any fun s=>decide (i6 s≠0)
def du (n:Name):Int:=if rm n then 4 else if 255<ca n then 5 else 0
theorem N1 (n:Name) (i:Nat) (c:ByteArray) (h:n[i]? = some c):rm (n.take (i+1))=(rm (n.take i) || decide (i6 c≠0)):=by
 obtain ⟨hk,rfl⟩:=List.getElem?_eq_some_iff.1 h
 rw [List.take_succ_eq_append_getElem hk]
 simp only [rm,List.any_append,List.any_cons,List.any_nil,Bool.or_false]
theorem Mr (n:Name) (i:Nat) (c:ByteArray) (h:n[i]? = some c) (hc:i6 c≠0):rm n=true:=by
 simp only [rm,List.any_eq_true]
 exact ⟨c,List.mem_of_getElem? h,by simp [hc]⟩
theorem ae8 (s:ByteArray):i6 s=0∨i6 s=4:=by unfold i6;split<;>simp
theorem afk (n:Name) (hn:ca n<17592186044416):wl PP [amw,aq3] 0 (Tryz.f121.body.getD .skip) (da PP Tryz.f121.results.toList (fun r st=>(r1 (bh .i64)).get true st.h r=some (du n))) (cj 0 [au.val false n]) (bj []):=by
 unfold Tryz.f121
 rw [cr]
 simp only [↓wR,RA,simprocAttr,TF]
 refine c7 [0,6,7,8] (fun (x:Nat)=>[.vl false 1 (n.map (aj.val false)),.vl false 1 (n.map (aj.val false)),.sc (.int .i64 n.length),.sc (.int .i64 x)]) (fun _=>[]) (fun x=>x≤n.length∧rm (n.take x)=false) (fun x=>n.length - x) 0 ⟨Nat.zero_le _,by simp [rm]⟩ ?_ ?_ ?_
 ·simp only [↓wR,RA,simprocAttr,TF]<;>rfl
 ·simp only [↓wR,RA,simprocAttr,TF]
 ·rintro i ⟨hi,hb⟩
  have h1:=j8 n i
  simp only [↓wR,RA,simprocAttr,TF]
  rw [di]
  refine ⟨fun h=>?_,fun h=>?_⟩
  ·have h4:i<n.length:=by simp at h;omega
   obtain ⟨c,hc⟩:∃ c,n[i]? = some c:=⟨n[i],by simp [h4]⟩
   simp only [↓wR,RA,simprocAttr,TF,hc,G9]
   rw [di]
   refine ⟨fun h=>?_,fun h=>?_⟩
   ·have h5:i6 c≠0:=by simpa using h
    have h6:i6 c=4:=(ae8 c).resolve_left h5
    simp only [↓wR,RA,simprocAttr,TF,du,Mr n i c hc h5,h6]
   ·have h5:i6 c=0:=by simpa using h
    simp only [↓wR,RA,simprocAttr,TF]
    refine ⟨i+1,⟨by omega,by rw [N1 n i c hc,hb];simp [h5]⟩,by omega,?_⟩
    simp only [List.cons.injEq,and_true,true_and,AV.sc.injEq,Value.int.injEq]
    rw [wrap_i64 _ (by omega) (by omega)];omega
  ·have h4:i=n.length:=by simp at h;omega
   subst h4
   rw [List.take_length] at hb
   simp only [↓wR,RA,simprocAttr,TF,zt,hn]
   rw [di]
   refine ⟨fun h=>?_,fun h=>?_⟩
   ·have h5 : 255<ca n:=by simp at h;omega
    simp only [↓wR,RA,simprocAttr,TF,du,hb,h5]
   ·have h5:¬ 255<ca n:=by simp at h;omega
    simp only [↓wR,RA,simprocAttr,TF,du,hb,h5]
noncomputable def sd (x:Name × Unit):Option AV:=if ca x.1<17592186044416 then some ((r1 (bh .i64)).E true (du x.1)) else none
set_option maxRecDepth 2000000 in
theorem tn (x:Name × Unit) (r:AV) (h:sd x=some r):bk PP 121 ((aC au a0).E x) r:=by
 by_cases hc:ca x.1<17592186044416
 case neg=>simp only [sd,if_neg hc] at h;cases h
 simp only [sd,if_pos hc] at h
 cases h
 exact ay (ar.cons (ak T8) (ar.cons (ak Wq) (ar.nil PP))) Tryz.func121 (by kernel_rfl) (by kernel_rfl) (by kernel_rfl) (Nat.le_of_ble_eq_true (by kernel_rfl)) (r1 (bh .i64)) true (du x.1) (afk x.1 hc)
noncomputable abbrev ft:Nat × Bool × (List AV→M AV):=(121,true,c8 (aC au a0) sd)
def low (c:UInt8):UInt8:=if 65≤c∧c≤90 then c+32 else c
def fold (s:ByteArray):ByteArray:=⟨(s.data.toList.map low).toArray⟩
def n6 (l:List UInt8) (i:Nat):List UInt8:=(l.take i).map low++l.drop i
theorem aqw (l:List UInt8) (i:Nat):(n6 l i).length=l.length:=by simp [n6];omega
theorem aac (l:List UInt8) (i:Nat) (h:i<l.length):(n6 l i)[i]? = l[i]? := by
 simp [n6,List.getElem?_append,Nat.min_eq_left (Nat.le_of_lt h)]
theorem Zx (l:List UInt8) (i:Nat) (h:i<l.length):(n6 l i).take i++[low l[i]]++(n6 l i).drop (i+1)=n6 l (i+1):=by
 have h1:((l.take i).map low).length=i:=by simp;omega
 have h2:(n6 l i).take i=(l.take i).map low:=by rw [n6,List.take_append_of_le_length (by omega),List.take_of_length_le (by omega)]
 have h3:(n6 l i).drop (i+1)=l.drop (i+1):=by
  rw [n6,List.drop_append,List.drop_eq_nil_of_le (by omega),h1]
  simp
 rw [h2,h3,n6,List.take_succ_eq_append_getElem h,List.map_append]
 rfl
theorem Vz (l:List UInt8) (i:Nat) (h:i<l.length) (hk:low l[i]=l[i]):n6 l i=n6 l (i+1):=by
 rw [← Zx l i h,hk]
 have:(n6 l i)[i]? = some l[i]:=by rw [aac l i h];simp [h]
 obtain ⟨hlt,e⟩:=List.getElem?_eq_some_iff.1 this
 rw [← e,← List.take_succ_eq_append_getElem hlt,List.take_append_drop]
set_option maxRecDepth 20000 in
theorem ac6 (s:ByteArray) (hs:s.size≤16777216):wl PP [] 0 (Tryz.f152.body.getD .skip) (da PP Tryz.f152.results.toList (fun r st=>(r1 aj).get true st.h r=some (fold s))) (cj 0 [aj.val false s]) (bj []):=by
 unfold Tryz.f152
 have hl:s.data.toList.length=s.size:=by simp
 simp only [↓wR,RA,simprocAttr,TF,hs]
 refine c7 [3,8,9,10] (fun (x:Nat)=>[.sl 0 0 s.size 1,.sl 0 0 s.size 1,.sc (.int .i64 s.size),.sc (.int .i64 x)]) (fun x=>[some (.row ((n6 s.data.toList x).map (bu.val false)) 0 1 5)]) (fun x=>x≤s.size) (fun x=>s.size - x) 0 (Nat.zero_le _) ?_ ?_ ?_
 ·simp only [↓wR,RA,simprocAttr,TF]<;>rfl
 ·simp only [↓wR,RA,simprocAttr,TF]<;>rfl
 ·intro i hi
  simp only [↓wR,RA,simprocAttr,TF]
  rw [di]
  refine ⟨fun h=>?_,fun h=>?_⟩
  ·have h4:i<s.size:=by simp at h;omega
   have h6:i<s.data.toList.length:=by omega
   have h5:(n6 s.data.toList i)[i]? = some s.data.toList[i]:=by rw [aac s.data.toList i h6];simp [h6]
   obtain ⟨c,hc⟩:∃ c,s.data.toList[i]=c:=⟨_,rfl⟩
   have hcl:=c.toNat_lt
   rw [hc] at h5
   simp only [↓wR,RA,simprocAttr,TF,h4,h5]
   rw [di]
   refine ⟨fun h1=>?_,fun h1=>?_⟩
   ·simp only [↓wR,RA,simprocAttr,TF,h1]
    rw [di]
    refine ⟨fun h2=>?_,fun h2=>?_⟩
    ·have h7:i+1≤s.size:=by omega
     have hlow:low c=c+32:=by
      simp at h1 h2
      have a1 : 65≤c:=by rw [UInt8.le_iff_toNat_le];simp;omega
      have a2:c≤90:=by rw [UInt8.le_iff_toNat_le];simp;omega
      simp [low,a1,a2]
     have hw:IntKind.u8.wrap (IntKind.u8.wrap ((c.toNat:Int)+97) - 65)=((low c).toNat:Int):=by
      simp at h1 h2
      rw [hlow]
      simp [IntKind.wrap,IntKind.bits,IntKind.signed,UInt8.toNat_add]
      omega
     have hst:List.map (bu.val false) (List.take i (n6 s.data.toList i))++[AV.sc (Value.int IntKind.u8 ((low c).toNat:Int))]++List.map (bu.val false) (List.drop (i+1) (n6 s.data.toList i))=List.map (bu.val false) (n6 s.data.toList (i+1)):=by
      rw [← Zx s.data.toList i h6,hc,List.map_append,List.map_append];rfl
     simp only [↓wR,RA,simprocAttr,TF,h4,h7,aqw,hl,hw,hst]
     refine ⟨i+1,h7,by omega,?_,rfl⟩
     rw [wrap_i64 _ (by omega) (by omega)];rfl
    ·simp only [↓wR,RA,simprocAttr,TF]
     have hk:low c=c:=by
      simp at h2
      have a2:¬ c≤90:=by rw [UInt8.le_iff_toNat_le];simp;omega
      simp [low,a2]
     refine ⟨i+1,by omega,by omega,?_,?_⟩
     ·rw [wrap_i64 _ (by omega) (by omega)];rfl
     ·rw [Vz s.data.toList i h6 (by rw [hc];exact hk)]
   ·simp only [↓wR,RA,simprocAttr,TF,h1]
    have hk:low c=c:=by
     simp at h1
     have a2:¬ 65≤c:=by rw [UInt8.le_iff_toNat_le];simp;omega
     simp [low,a2]
    refine ⟨i+1,by omega,by omega,?_,?_⟩
    ·rw [wrap_i64 _ (by omega) (by omega)];rfl
    ·rw [Vz s.data.toList i h6 (by rw [hc];exact hk)]
  ·have h4:i=s.size:=by simp at h;omega
   subst h4
   have:∃ m,List.map low s.data.toList=m:=⟨_,rfl⟩
   obtain ⟨m,hm⟩:=this
   have h5:n6 s.data.toList s.size=m:=by rw [n6,List.take_of_length_le (Nat.le_of_eq hl),List.drop_eq_nil_of_le (Nat.le_of_eq hl),List.append_nil,hm]
   have hlm:m.length=s.size:=by rw [← hm,List.length_map,hl]
   have h6:List.take s.size (List.map (bu.val false) m)=List.map (bu.val false) m:=List.take_of_length_le (by rw [List.length_map,hlm];exact Nat.le_refl _)
   have hf:fold s=⟨m.toArray⟩:=by rw [fold,hm]
   rw [h5,hf]
   simp only [↓wR,RA,simprocAttr,TF,hlm,h6]
noncomputable def um (x:ByteArray × Unit):Option AV:=if x.1.size≤16777216 then some ((r1 aj).E true (fold x.1)) else none
set_option maxRecDepth 2000000 in
theorem Bh (x:ByteArray × Unit) (r:AV) (h:um x=some r):bk PP 152 ((aC aj a0).E x) r:=by
 by_cases hc:x.1.size≤16777216
 case neg=>simp only [um,if_neg hc] at h;cases h
 simp only [um,if_pos hc] at h
 cases h
 exact ay (ar.nil PP) Tryz.func152 (by kernel_rfl) (by kernel_rfl) (by kernel_rfl) (Nat.le_of_ble_eq_true (by kernel_rfl)) (r1 aj) true (fold x.1) (ac6 x.1 hc)
noncomputable abbrev L8:Nat × Bool × (List AV→M AV):=(152,true,c8 (aC aj a0) um)
theorem adn (a b:ByteArray) (ha:a.size≤16777216) (hb:b.size≤16777216):wl PP [L8] 0 (Tryz.f145.body.getD .skip) (da PP Tryz.f145.results.toList (fun r st=>(r1 bo).get true st.h r=some (decide (fold a=fold b)))) (cj 0 [aj.val false a,aj.val false b]) (bj []):=by
 unfold Tryz.f145
 simp only [↓wR,RA,simprocAttr,TF,um,ha,hb]
noncomputable def Ac (x:ByteArray × ByteArray × Unit):Option AV:=if x.1.size≤16777216∧x.2.1.size≤16777216 then some ((r1 bo).E true (decide (fold x.1=fold x.2.1))) else none
set_option maxRecDepth 2000000 in
theorem Wj (x:ByteArray × ByteArray × Unit) (r:AV) (h:Ac x=some r):bk PP 145 ((aC aj (aC aj a0)).E x) r:=by
 by_cases hc:x.1.size≤16777216∧x.2.1.size≤16777216
 case neg=>simp only [Ac,if_neg hc] at h;cases h
 simp only [Ac,if_pos hc] at h
 cases h
 exact ay (ar.cons (ak Bh) (ar.nil PP)) Tryz.func145 (by kernel_rfl) (by kernel_rfl) (by kernel_rfl) (Nat.le_of_ble_eq_true (by kernel_rfl)) (r1 bo) true (decide (fold x.1=fold x.2.1)) (adn x.1 x.2.1 hc.1 hc.2)
noncomputable abbrev ard:Nat × Bool × (List AV→M AV):=(145,true,c8 (aC aj (aC aj a0)) Ac)
end Go.Proofs.YtgencolcibpcaaaGreat
end
section
namespace Go.Proofs.YtgencolcibpcaaaGreat
open Go.Vm Go.RowKit
theorem aze {x:Value} (h:m9 x = .str):∃ s,x = .string s:=by cases x<;>first|exact ⟨_,rfl⟩|cases h
theorem T1 {x:Value} {k:IntKind} (h:m9 x = .int k):∃ i,x = .int k i:=by cases x<;>first|(cases h;exact ⟨_,rfl⟩)|cases h
theorem Np:Tryz.f38.ntmps=22:=rfl
set_option maxHeartbeats 1600000 in
set_option maxRecDepth 1000000 in
theorem x7 {S:Nat→Prop} {M:Nat} {v:Value} {w:World} (hM:M<9223372036854775807) (hv:nw S M w .str v) :
 Calls PP 38 #[v] w (fun e w'=>∃ r,e = .returned r∧jk S 1 false w w'):=by
 rcases hv with ⟨a,rfl⟩|⟨b,off,n,cap,cs,e,rfl,h1,⟨h2,hcm⟩,h3,h4,h5,h6⟩
 ·go_enter Tryz.func38,Np
  cases a with
  |none=>
   go_wp2
   refine wp_loop_rounds 1 ?_
   rw [rounds_succ]
   go_wp2
   go_end0
   exact ⟨_,rfl,.refl _ _ _ _⟩
  |some a=>
   go_wp2
   refine wp_loop_rounds 1 ?_
   rw [rounds_succ]
   go_wp2
   go_end0
   exact ⟨_,rfl,.refl _ _ _ _⟩
 unfold maxLen at hcm
 go_enter Tryz.func38,Np
 go_wp2
 go_loopw [3] (fun i wr=>∃ k:Nat,k≤cap∧i = .int .i64 k∧Lp w b cs e off 1 k wr)
  (fun i _=>cap - (RowKit.intOf i).toNat)
 case atStart=>exact ⟨0,Nat.zero_le _,rfl,.start h3⟩
 case round=>
  obtain ⟨k,hk,rfl,hl⟩:=hrel
  by_cases hkc:k<cap
  ·have hlt:off+k<cs.size:=by omega
   obtain ⟨x,hx⟩:∃ x,cs[off+k]? = some x:=⟨_,Array.getElem?_eq_getElem hlt⟩
   obtain ⟨q1,q2⟩:=h6 k x hkc hx
   obtain ⟨s,rfl⟩:=aze q1
   have hs:=hl.cell hx
   have hfz:=hl.frozen (off+k)
   have hsM:s.size+1≤9223372036854775807:=by have:=q2 s rfl;omega
   go_wp2
   go_roundw
   case rel=>exact ⟨k+1,by omega,by simp,hl.step hx (by simp [m9]) rfl (fun s' e=>by cases e;exact ⟨s,rfl,by rw [ByteArray.size_append];exact Nat.le_refl _⟩)⟩
   case measure=>simp [RowKit.intOf];omega
  ·go_wp2
   go_end0
   exact ⟨_,rfl,hl.s6 h3 h1⟩
theorem abn:Tryz.f117.ntmps=22:=rfl
set_option maxHeartbeats 1600000 in
set_option maxRecDepth 1000000 in
theorem aai {S:Nat→Prop} {M:Nat} {v:Value} {w:World} (hv:nw S M w (.int .u8) v) :
 Calls PP 117 #[v] w (fun e w'=>∃ r,e = .returned r∧jk S 1 false w w'):=by
 obtain ⟨base,n,cap,rfl,h2,hcm,hb0⟩:=hv.form
 unfold maxLen at hcm
 have hst:=M0.start (m:=1) hv
 go_enter Tryz.func117,abn
 go_wp2
 go_loopw [3] (fun i wr=>∃ k:Nat,k≤cap∧i = .int .i64 k∧M0 S 1 k w (.slice base n cap) wr)
  (fun i _=>cap - (RowKit.intOf i).toNat)
 case atStart=>exact ⟨0,Nat.zero_le _,rfl,hst⟩
 case round=>
  obtain ⟨k,hk,rfl,hl⟩:=hrel
  by_cases hkc:k<cap
  ·obtain ⟨b,off,x,rfl,hs,hfz,q1,q2,hstep⟩:=hl.at (by decide) hv hkc
   obtain ⟨y,rfl⟩:=T1 q1
   go_wp2
   go_roundw
   case rel=>exact ⟨k+1,by omega,by simp,hstep _ rfl (fun s' e=>by cases e)⟩
   case measure=>simp [RowKit.intOf];omega
  ·go_wp2
   go_end0
   exact ⟨_,rfl,hl.s6⟩
theorem aii:Tryz.f66.ntmps=44:=rfl
set_option maxHeartbeats 1600000 in
set_option maxRecDepth 1000000 in
theorem acz {S:Nat→Prop} {Nn M:Nat} {va vb vc vd:Value} {w:World} (hM4 : 4≤M) (hM:M+(Nn+3)<9223372036854775807) (hS:∀ b,w.heap.size≤b→S b) (hv:Oj S Nn M w [va,vb,vc,vd]) :
 Calls PP 66 #[.agg #[va,vb,vc,vd]] w (fun e w'=>∃ r,e = .returned r∧jk S (Nn+3) false w w'):=by
 obtain ⟨_,_,_,_,he,ha,hb,hc,hd⟩:=hv
 cases he
 have hal:jk S 0 false w (w.alloc (.cells #[va,vb,vc,vd] 101)):=jk.alloc _
 obtain ⟨bn,an,cn,rfl,an1,an2,an3,an4⟩:=ha.form
 obtain ⟨bm,am,cm,rfl,am2,am3,am4⟩:=hb.form
 unfold maxLen at an3 am3
 have hheap:(w.alloc (.cells #[Value.slice bn an cn,.slice bm am cm,vc,vd] 101)).heap[w.heap.size]? = some (.cells #[Value.slice bn an cn,.slice bm am cm,vc,vd] 101 (0,0)):=B9 _ _
 have cell:∀ {m:Nat} {wr:World},jk S m false (w.alloc (.cells #[Value.slice bn an cn,.slice bm am cm,vc,vd] 101)) wr→wr.cell? ⟨w.heap.size,0,none⟩=some (.slice bn an cn)∧wr.cell? ⟨w.heap.size,1,none⟩=some (.slice bm am cm)∧wr.cell? ⟨w.heap.size,2,none⟩=some vc∧wr.cell? ⟨w.heap.size,3,none⟩=some vd:=by
  intro m wr h
  refine ⟨h.stay (by rw [jn hheap];rfl) rfl,h.stay (by rw [jn hheap];rfl) rfl,h.stay (by rw [jn hheap];rfl) hc.slice,h.stay (by rw [jn hheap];rfl) hd.slice⟩
 go_enter Tryz.func66,aii
 go_wp2
 go_loopw [2] (fun i wr=>∃ k:Nat,k≤an∧i = .int .i64 k∧jk S k false (w.alloc (.cells #[Value.slice bn an cn,.slice bm am cm,vc,vd] 101)) wr)
  (fun i _=>an - (RowKit.intOf i).toNat)
 case atStart=>exact ⟨0,Nat.zero_le _,rfl,.refl _ _ _ _⟩
 case round=>
  obtain ⟨k,hk,rfl,ho⟩:=hrel
  obtain ⟨c0,c1,c2,c3⟩:=cell ho
  by_cases hkc:k<an
  ·have hn:=Yb hM4 (hal.trans ho) ha
   obtain ⟨b,off,cs,e,rfl,e1,e2,e3,e4,e5,e6,v,e7,e8⟩:=hn.at hkc
   have h9:cs.getD (off+k) undef=v:=by simpa using e7
   have hx:wr.cell? ⟨b,off+k,none⟩=some v:=by rw [← h9];exact cell_of e2 (by omega)
   go_wp2
   refine (x7 (by omega) e8).mono ?_
   rintro ex w2 ⟨r,rfl,hov⟩
   go_wp2
   go_roundw
   case rel=>exact ⟨k+1,hkc,by simp,ho.trans hov⟩
   case measure=>simp [RowKit.intOf];omega
  ·go_wp2
   have hbb:=(hb.s6 (by decide) (hal.trans ho)).mono (M':=M+Nn) (by omega)
   have hst:=M0.start (m:=1) hbb
   go_loopw [4] (fun i w2=>∃ q:Nat,q≤cm∧i = .int .i64 q∧M0 S 1 q wr (.slice bm am cm) w2)
    (fun i _=>cm - (RowKit.intOf i).toNat)
   case atStart=>exact ⟨0,Nat.zero_le _,rfl,hst⟩
   case round=>
    obtain ⟨q,hq,rfl,hl⟩:=hrel
    by_cases hqc:q<cm
    ·obtain ⟨b,off,x,rfl,hs,hfz,q1,q2,hstep⟩:=hl.at (by decide) hbb hqc
     obtain ⟨y,rfl⟩:=T1 q1
     go_wp2
     go_roundw
     case rel=>exact ⟨q+1,by omega,by simp,hstep _ rfl (fun s' e=>by cases e)⟩
     case measure=>simp [RowKit.intOf];omega
    ·have ho2:=hl.s6
     obtain ⟨d0,d1,d2,d3⟩:=cell (ho.trans ho2)
     go_wp2
     have h3:=(hal.trans ho).trans ho2
     refine (x7 (M:=M+(0+k+1)) (by omega) (hc.s6 (by decide) h3)).mono ?_
     rintro ex w2 ⟨r,rfl,hov⟩
     obtain ⟨f0,f1,f2,f3⟩:=cell ((ho.trans ho2).trans hov)
     go_wp2
     refine (aai (hd.s6 (by decide) (h3.trans hov))).mono ?_
     rintro ex w3 ⟨r2,rfl,hov2⟩
     go_wp2
     go_end0
     exact ⟨_,rfl,((h3.trans hov).trans hov2).mono (by omega)⟩
theorem azy:TK.sz 9=some 1:=by kernel_rfl
theorem ahv:Tryz.f19.ntmps=86:=rfl
set_option maxHeartbeats 3200000 in
set_option maxRecDepth 1000000 in
theorem ads {S:Nat→Prop} {Nn Nd N M:Nat} {v:Value} {w:World} (hM4 : 4≤M) (hM:M+N * (1+Nd * (Nn+3))+(Nn+3)<9223372036854775807) (hS:∀ b,w.heap.size≤b→S b) (hv:my S N w 5 (Mf S Nn Nd M) v) :
 Calls PP 19 #[v] w (fun e w'=>∃ r,e = .returned r∧jk S (N * (1+Nd * (Nn+3))) true w w'):=by
 obtain ⟨bn,an,cn,rfl,an1,an2,an3,an4⟩:=hv.form
 unfold maxLen at an3
 go_enter Tryz.func19,ahv
 go_wp2
 go_loopw [2] (fun i wr=>∃ k:Nat,k≤an∧i = .int .i64 k∧jk S (k * (1+Nd * (Nn+3))) true w wr)
  (fun i _=>an - (RowKit.intOf i).toNat)
 case atStart=>exact ⟨0,Nat.zero_le _,rfl,(jk.refl _ _ _ _)⟩
 case round=>
  obtain ⟨k,hk,rfl,ho⟩:=hrel
  by_cases hkc:k<an
  ·have hn:=Bl hM4 ho hv
   obtain ⟨b,off,cs,e,rfl,e1,e2,e3,e4,e5,e6,o,ty,cl,u,d,e7,e8,e9,e10,e11,e12⟩:=hn.at hkc
   simp only [show List.range 5=[0,1,2,3,4] from rfl,List.map_cons,List.map_nil,List.cons.injEq,and_true,Nat.add_zero] at e7
   obtain ⟨g0,g1,g2,g3,g4⟩:=e7
   have c0:wr.cell? ⟨b,off+k * 5,none⟩=some o:=by rw [← g0];exact cell_of e2 (by omega)
   have c4:wr.cell? ⟨b,off+k * 5+4,none⟩=some d:=by rw [← g4];exact cell_of e2 (by omega)
   go_wp2
   refine (x7 (M:=M+k * (1+Nd * (Nn+3))) (by have:=Nat.mul_le_mul_right (1+Nd * (Nn+3)) (show k≤N by omega);omega) e8).mono ?_
   rintro ex w2 ⟨r,rfl,hov⟩
   obtain ⟨bd,dn,dc,rfl,d1,d2,d3,d4⟩:=e12.form
   unfold maxLen at d3
   have hsz:w.heap.size≤w2.heap.size:=Nat.le_trans ho.size hov.size
   have f4:w2.cell? ⟨b,off+k * 5+4,none⟩=some (.slice bd dn dc):=hov.stay c4 rfl
   go_wp2
   go_loopw [3] (fun i wr2=>∃ q:Nat,q≤dn∧i = .int .i64 q∧jk S (q * (Nn+3)) false w2 wr2)
    (fun i _=>dn - (RowKit.intOf i).toNat)
   case atStart=>exact ⟨0,Nat.zero_le _,rfl,(jk.refl _ _ _ _)⟩
   case round=>
    obtain ⟨q,hq,rfl,ho2⟩:=hrel
    have f5:=ho2.stay f4 rfl
    by_cases hqc:q<dn
    ·have hd2:=Mm (by omega) (hov.trans ho2) e12
     obtain ⟨b2,off2,cs2,et2,rfl,p1,p2,p3,p4,p5,p6,p7⟩:=hd2.at hqc
     obtain ⟨x0,x1,x2,x3,p8,p9⟩:=id p7
     simp only [show List.range 4=[0,1,2,3] from rfl,List.map_cons,List.map_nil,List.cons.injEq,and_true,Nat.add_zero] at p8
     obtain ⟨q0,q1,q2,q3⟩:=p8
     have i0:wr.cell? ⟨b2,off2+q * 4,none⟩=some x0:=by rw [← q0];exact cell_of p2 (by omega)
     have i1:wr.cell? ⟨b2,off2+q * 4+1,none⟩=some x1:=by rw [← q1];exact cell_of p2 (by omega)
     have i2:wr.cell? ⟨b2,off2+q * 4+2,none⟩=some x2:=by rw [← q2];exact cell_of p2 (by omega)
     have i3:wr.cell? ⟨b2,off2+q * 4+3,none⟩=some x3:=by rw [← q3];exact cell_of p2 (by omega)
     have hk1:k * (1+Nd * (Nn+3))+(1+Nd * (Nn+3))≤N * (1+Nd * (Nn+3)):=by rw [← Nat.succ_mul];exact Nat.mul_le_mul_right _ (by omega)
     have hq1:q * (Nn+3)+(Nn+3)≤Nd * (Nn+3):=by rw [← Nat.succ_mul];exact Nat.mul_le_mul_right _ (by omega)
     go_wp2
     refine (acz (M:=M+k * (1+Nd * (Nn+3))+(1+q * (Nn+3))) (by omega) (by omega) (fun b hb=>hS b (by have:=ho2.size;omega)) ⟨x0,x1,x2,x3,rfl,p9⟩).mono ?_
     rintro ex w3 ⟨r3,rfl,hov3⟩
     go_wp2
     go_roundw
     case rel=>exact ⟨q+1,hqc,by simp,by rw [Nat.succ_mul];exact ho2.trans hov3⟩
     case measure=>simp [RowKit.intOf];omega
    ·go_wp2
     go_region
     go_wp2
     have hq1:q=dn:=by omega
     subst hq1
     have h3:=hov.trans ho2
     go_loopw [5] (fun i wr3=>∃ p:Nat,q≤p∧(p≤dc∨p=q)∧i = .int .i64 p∧jk S 0 true wr wr3)
      (fun i _=>dc - (RowKit.intOf i).toNat)
     case atStart=>exact ⟨q,Nat.le_refl _,.inr rfl,rfl,jk.quiet _ _ _ (Nat.le_refl _) rfl rfl rfl (fun _ _=>rfl)⟩
     case round=>
      obtain ⟨p,hp1,hp2,rfl,ho3⟩:=hrel
      by_cases hpc:p<dc
      ·have hd3:=Mm (xx:=true) (by omega) (h3.any.trans ho3) e12
       obtain ⟨b2,off2,cs2,et2,rfl,p1,p2,p3,p4,p5,p6⟩:=hd3.room hpc
       have hfz:=afa p2
       have m0:=fun o=>Ee p2 o (j:=off2+p * 4) (by omega)
       have m1:=fun o=>Ee p2 o (j:=off2+p * 4+1) (by omega)
       have m2:=fun o=>Ee p2 o (j:=off2+p * 4+2) (by omega)
       have m3:=fun o=>Ee p2 o (j:=off2+p * 4+3) (by omega)
       go_wp2
       go_roundw
       case rel=>exact ⟨p+1,by omega,.inl (by omega),by simp,ho3.trans (jk.spare p2 p1 p3 (hS _ (by have:=ho3.size;have:=ho2.size;omega)) (by omega) azy (by decide))⟩
       case measure=>simp [RowKit.intOf];omega
      ·have ht:=(ho.trans h3.any).trans ho3
       obtain ⟨b',off',cs',e',he',y1,y2,y3,y4,y5,y6,o',ty',cl',u',d',y7,y8,y9,y10,y11,y12⟩:=(Bl hM4 ht hv).at hkc
       cases he'
       simp only [show List.range 5=[0,1,2,3,4] from rfl,List.map_cons,List.map_nil,List.cons.injEq,and_true,Nat.add_zero] at y7
       obtain ⟨z0,z1',z2,z3',z4⟩:=y7
       have l1:wr.cell? ⟨b,off+k * 5+1,none⟩=some ty':=by rw [← z1'];exact cell_of y2 (by omega)
       have l3:wr.cell? ⟨b,off+k * 5+3,none⟩=some u':=by rw [← z3'];exact cell_of y2 (by omega)
       have z1:=Lw y2 (off+k * 5+1)
       have z3:=Lw y2 (off+k * 5+3)
       obtain ⟨i1,rfl⟩:=T1 y9
       obtain ⟨i3,rfl⟩:=T1 y11
       go_wp2
       have hs3:=jk.set (v:=.int .u32 (bits BinOp.xor .u32 i3 77)) y2 y1 (j:=off+k * 5+3) (x:=.int .u32 i3) (by rw [← z3',Array.getD_eq_getD_getElem?,Array.getElem?_eq_getElem (by omega)];rfl) (by intro q;cases q) rfl (fun s q=>by cases q)
       have hs1:=jk.set (v:=.int .u16 (bits BinOp.xor .u16 i1 77)) hs3.2 y1 (j:=off+k * 5+1) (x:=.int .u16 i1) (by rw [Array.getElem?_setIfInBounds,if_neg (by omega),← z1',Array.getD_eq_getD_getElem?,Array.getElem?_eq_getElem (by omega)];rfl) (by intro q;cases q) rfl (fun s q=>by cases q)
       have hq3:q * (Nn+3)≤Nd * (Nn+3):=Nat.mul_le_mul_right _ d1
       go_roundw
       case rel=>exact ⟨k+1,hkc,by simp,by rw [Nat.succ_mul];exact ((ht.trans (hs3.1.trans hs1.1).any)).mono (by omega)⟩
       case measure=>simp [RowKit.intOf];omega
  ·go_wp2
   go_end0
   exact ⟨_,rfl,ho.mono (Nat.mul_le_mul_right _ (by omega))⟩
theorem ahp:Tryz.f51.ntmps=8:=rfl
theorem alb:TK.sz 41=some 2:=by kernel_rfl
set_option maxHeartbeats 3200000 in
set_option maxRecDepth 1000000 in
theorem Lf {S:Nat→Prop} {Nn Nd N M:Nat} {va vb:Value} {w:World} (hM4 : 4≤M) (hM:M+1+N * (1+Nd * (Nn+3))+(Nn+3)<9223372036854775807) (hS:∀ b,w.heap.size≤b→S b) (ha:nw S M w .str va) (hb:my S N w 5 (Mf S Nn Nd M) vb) :
 Calls PP 51 #[.agg #[va,vb]] w (fun e w'=>∃ r,e = .returned r∧jk S (1+N * (1+Nd * (Nn+3))) true w w'):=by
 have hal:jk S 0 false w (w.alloc (.cells #[va,vb] 41)):=jk.alloc _
 have hheap:(w.alloc (.cells #[va,vb] 41)).heap[w.heap.size]? = some (.cells #[va,vb] 41 (0,0)):=B9 _ _
 go_enter Tryz.func51,ahp
 go_wp2
 refine (x7 (M:=M+0) (by omega) (ha.s6 (by decide) hal)).mono ?_
 rintro ex w2 ⟨r,rfl,hov⟩
 have c1:=hov.aB0 hheap alb (by decide) (j:=1) rfl hb.slice
 have h2:=hal.trans hov
 go_wp2
 refine (ads (M:=M+(0+1)) (by omega) (by omega) (fun b hb=>hS b (by have:=h2.size;omega)) (Bl hM4 h2 hb)).mono ?_
 rintro ex w3 ⟨r3,rfl,hov3⟩
 go_wp2
 go_end0
 exact ⟨_,rfl,((h2.any.trans hov3)).mono (by omega)⟩
end Go.Proofs.YtgencolcibpcaaaGreat
end
section
namespace Go.Proofs.YtgencolcibpcaaaGreat
open Go.Vm
def fh:List ByteArray→List ByteArray→Nat
 |a::r,b::q=>if fold a=fold b then fh r q+1 else 0
 |_,_=>0
theorem Rh (l:List ByteArray):fh l []=0:=by cases l<;>rfl
def common (a b:Name):Nat:=fh a.reverse b.reverse
theorem Jz {l:List ByteArray} {x:Nat} {c:ByteArray} (h:x<l.length) (hc:l[l.length - 1 - x]? = some c):l.reverse.drop x=c::l.reverse.drop (x+1):=by
 have h1:l.reverse[x]? = some c:=by rw [List.getElem?_reverse h];exact hc
 obtain ⟨h2,h3⟩:=List.getElem?_eq_some_iff.1 h1
 rw [← h3];exact List.drop_eq_getElem_cons h2
set_option maxRecDepth 20000 in
theorem aa0 (a b:Name) (ha:∀ s ∈ a,s.size≤16777216) (hb:∀ s ∈ b,s.size≤16777216) (hla:a.length<17592186044416) (hlb:b.length<17592186044416):wl PP [ard] 0 (Tryz.f106.body.getD .skip) (da PP Tryz.f106.results.toList (fun r st=>(r1 (bh .i64)).get true st.h r=some (common a b:Int))) (cj 0 [au.val false a,au.val false b]) (bj []):=by
 unfold Tryz.f106
 simp only [cr]
 simp only [↓wR,RA,simprocAttr,TF]
 refine ct (T:=[]) (ar.nil PP) mixed Tryz.func144 rfl (by kernel_rfl) (by kernel_rfl) (by kernel_rfl) (by kernel_rfl) ?_;unfold Tryz.f144
 simp only [↓wR,RA,simprocAttr,TF]
 refine ⟨[2,3,4,5,10],?_⟩
 have hib:Cw PP 177=some (Tryz.f177.ntmps,Tryz.f177.body.getD .skip):=by kernel_rfl
 simp only [↓wR,RA,simprocAttr,TF,hib]
 refine ⟨by kernel_rfl,fun l=>?_⟩
 unfold Tryz.f177
 simp only [↓wR,RA,simprocAttr,TF]
 refine Gc [0,1,3] (fun (x:Nat)=>[.sc (.func (.yield l) #[] #[]),.ptr 4 0,.sc (.int .i64 ((a.length:Int) - 1 - x))]) (fun x=>[some (.row [.vl false 1 (a.map (aj.val false))] 0 2 24),some (.row [.vl false 1 (b.map (aj.val false))] 0 2 24),some (.row [.sc (.int .i64 0)] 0 2 3),some (.row [.sc (.int .i64 x)] 0 2 3),some (.row [.vl false 1 (a.map (aj.val false))] 0 2 24)]) (fun x=>x≤a.length∧common a b=x+fh (a.reverse.drop x) (b.reverse.drop x)) (fun x=>a.length - x) 0 ⟨Nat.zero_le _,by simp [common]⟩ ?_ ?_ ?_
 ·simp only [↓wR,RA,simprocAttr,TF];simp;rw [wrap_i64 _ (by omega) (by omega)]
 ·simp only [↓wR,RA,simprocAttr,TF]<;>rfl
 rintro x ⟨hx,hR⟩
 simp only [↓wR,RA,simprocAttr,TF]
 rw [wt];refine ⟨fun h=>?_,fun h=>?_⟩
 ·have hx':x<a.length:=by simp at h;omega
  obtain ⟨c,hc⟩:∃ c,a[a.length - 1 - x]? = some c:=⟨_,List.getElem?_eq_getElem (by omega)⟩
  have e:((a.length:Int) - 1 - x).toNat=a.length - 1 - x:=by omega
  have e2:(0:Int)≤(a.length:Int) - 1 - x:=by omega
  simp only [↓wR,RA,simprocAttr,TF,e,hc,e2]
  refine zp [0,1,3,12,16] ?_
  simp only [↓wR,RA,simprocAttr,TF,Af,oe,hc]
  simp (disch:=omega) only [ag,bf,bg,be,bb]
  rw [di];refine ⟨fun h1=>?_,fun h1=>?_⟩
  ·have hb0:b.length≤x:=by simp at h1;omega
   have hb1:b.reverse.drop x=[]:=List.drop_eq_nil_of_le (by simpa using hb0)
   rw [hb1,Rh] at hR
   simp only [↓wR,RA,simprocAttr,TF,h1]
   rw [hR,Nat.add_zero]
  ·have hb0:x<b.length:=by simp at h1;omega
   obtain ⟨d,hd⟩:∃ d,b[b.length - 1 - x]? = some d:=⟨_,List.getElem?_eq_getElem (by omega)⟩
   have e4:((b.length:Int) - ((a.length:Int) - ((a.length:Int) - 1 - x))).toNat=b.length - 1 - x:=by omega
   have e5:(0:Int)≤(b.length:Int) - ((a.length:Int) - ((a.length:Int) - 1 - x)):=by omega
   simp only [↓wR,RA,simprocAttr,TF,h1,hd,e4,e5,Ac,ha c (List.mem_of_getElem? hc),hb d (List.mem_of_getElem? hd)]
   rw [Jz hx' hc,Jz hb0 hd,fh] at hR
   rw [di];refine ⟨fun h2=>?_,fun h2=>?_⟩
   ·have h3:¬ fold c=fold d:=by simpa using h2
    rw [if_neg h3] at hR
    simp only [↓wR,RA,simprocAttr,TF,h2]
    rw [hR,Nat.add_zero]
   ·have h3:fold c=fold d:=by simpa using h2
    rw [if_pos h3] at hR
    simp only [↓wR,RA,simprocAttr,TF,h2]
    refine ⟨x+1,⟨by omega,by omega⟩,by omega,?_,?_⟩
    ·simp only [List.cons.injEq,and_true,true_and,AV.sc.injEq,Value.int.injEq]
     simp (disch:=omega) only [ag,bf,bg,be,bb]
     omega
    ·simp (disch:=omega) only [ag,bf,bg,be,bb]
     rfl
 ·have h4:x=a.length:=by simp at h;omega
  have h5:a.reverse.drop x=[]:=List.drop_eq_nil_of_le (by simp;omega)
  rw [h5,fh] at hR
  simp only [↓wR,RA,simprocAttr,TF,h]
  rw [hR,Nat.add_zero]
  all_goals simp
theorem aim (args:List AV):Ei PP 194 args (Cx.pw args):=
 Cx.Nm (fn:=(PP.funcs[194]?).getD default) (by kernel_rfl) (by kernel_rfl) (by kernel_rfl) (by kernel_rfl) (by kernel_rfl) args
noncomputable abbrev ao6:Nat × Bool × (List AV→M AV):=(194,true,Cx.pw)
theorem ark:ar PP [ao6]:=ar.cons aim (ar.nil PP)
noncomputable def vi (a b:ByteArray):Int:=Lib.compareBytes a.data.toList b.data.toList
theorem Pp (a b:ByteArray):wl PP [] 0 (Tryz.f151.body.getD .skip) (da PP Tryz.f151.results.toList (fun r st=>(r1 (bh .i64)).get true st.h r=some (vi a b))) (cj 0 [aj.val false a,aj.val false b]) (bj []):=by
 unfold Tryz.f151
 simp only [↓wR,RA,simprocAttr,TF]
 refine ct (T:=[ao6]) ark mixed Tryz.func179 rfl (by kernel_rfl) (by kernel_rfl) (by kernel_rfl) (by kernel_rfl) ?_;unfold Tryz.f179
 simp only [↓wR,RA,simprocAttr,TF,vi]
noncomputable def zr (x:ByteArray × ByteArray × Unit):Option AV:=some ((r1 (bh .i64)).E true (vi x.1 x.2.1))
set_option maxRecDepth 2000000 in
theorem Ld (x:ByteArray × ByteArray × Unit) (r:AV) (h:zr x=some r):bk PP 151 ((aC aj (aC aj a0)).E x) r:=by
 cases h
 exact ay (ar.nil PP) Tryz.func151 (by kernel_rfl) (by kernel_rfl) (by kernel_rfl) (Nat.le_of_ble_eq_true (by kernel_rfl)) (r1 (bh .i64)) true (vi x.1 x.2.1) (Pp x.1 x.2.1)
noncomputable abbrev V7:Nat × Bool × (List AV→M AV):=(151,true,c8 (aC aj (aC aj a0)) zr)
theorem Uq (a b:ByteArray) (ha:a.size≤16777216) (hb:b.size≤16777216):wl PP [L8,V7] 0 (Tryz.f109.body.getD .skip) (da PP Tryz.f109.results.toList (fun r st=>(r1 (bh .i64)).get true st.h r=some (vi (fold a) (fold b)))) (cj 0 [aj.val false a,aj.val false b]) (bj []):=by
 unfold Tryz.f109
 simp only [↓wR,RA,simprocAttr,TF,um,zr,ha,hb]
noncomputable def uw (x:ByteArray × ByteArray × Unit):Option AV:=if x.1.size≤16777216∧x.2.1.size≤16777216 then some ((r1 (bh .i64)).E true (vi (fold x.1) (fold x.2.1))) else none
set_option maxRecDepth 2000000 in
theorem Pj (x:ByteArray × ByteArray × Unit) (r:AV) (h:uw x=some r):bk PP 109 ((aC aj (aC aj a0)).E x) r:=by
 by_cases hc:x.1.size≤16777216∧x.2.1.size≤16777216
 case neg=>simp only [uw,if_neg hc] at h;cases h
 simp only [uw,if_pos hc] at h
 cases h
 exact ay (ar.cons (ak Bh) (ar.cons (ak Ld) (ar.nil PP))) Tryz.func109 (by kernel_rfl) (by kernel_rfl) (by kernel_rfl) (Nat.le_of_ble_eq_true (by kernel_rfl)) (r1 (bh .i64)) true (vi (fold x.1) (fold x.2.1)) (Uq x.1 x.2.1 hc.1 hc.2)
noncomputable abbrev agw:Nat × Bool × (List AV→M AV):=(109,true,c8 (aC aj (aC aj a0)) uw)
def fm (n:Name):List ByteArray:=n.map fold
def bw (n:Name):Prop:=ca n≤16777216
instance (n:Name):Decidable (bw n):=inferInstanceAs (Decidable (_≤_))
theorem agb {n:Name} {s:ByteArray} (h:s ∈ n):s.size<ca n:=by
 obtain ⟨a,b,rfl⟩:=List.append_of_mem h
 have h1:=ru a ([s]++b)
 have h2:=ru [s] b
 have h3:ca [s]=s.size+2:=by simp [ca];omega
 have h4:∀ l:Name,1≤ca l:=fun l=>by have:=(j8 l 0).2;omega
 have:=h4 a;have:=h4 b
 simp only [List.singleton_append] at h1 h2
 omega
theorem bw.label {n:Name} (h:bw n):∀ s ∈ n,s.size≤16777216:=fun s hs=>by have:=agb hs;unfold bw at h;omega
theorem bw.len {n:Name} (h:bw n):n.length<17592186044416:=by have:=(j8 n 0).2;unfold bw at h;omega
theorem El:∀ r q:List ByteArray,fh r q≤q.length
 | [],q=>by simp [fh]
 |a::r,[]=>by simp [fh]
 |a::r,b::q=>by
  have:=El r q
  simp only [fh,List.length_cons]
  split<;>omega
theorem zo:∀ r q:List ByteArray,fh r q≤r.length
 | [],q=>by simp [fh]
 |a::r,[]=>by simp [fh]
 |a::r,b::q=>by
  have:=zo r q
  simp only [fh,List.length_cons]
  split<;>omega
theorem Px:∀ r q:List ByteArray,fh r q=q.length↔q.map fold <+: r.map fold
 | [],[]=>by simp [fh]
 |a::r,[]=>by simp [fh]
 | [],b::q=>by simp [fh]
 |a::r,b::q=>by
  have:=Px r q
  simp only [fh,List.length_cons,List.map_cons,List.cons_prefix_cons]
  by_cases h:fold a=fold b
  ·rw [if_pos h]
   constructor
   ·intro h1;exact ⟨h.symm,this.1 (by omega)⟩
   ·intro h1;have:=this.2 h1.2;omega
  ·rw [if_neg h]
   constructor
   ·intro h1;omega
   ·intro h1;exact (h h1.1.symm).elim
theorem Aj (n top:Name):common n top=top.length↔fm top <:+ fm n:=by
 unfold common fm
 rw [← List.length_reverse,Px,List.map_reverse,List.map_reverse,List.reverse_prefix]
theorem Cr (a b:Name):(a.length=b.length∧common a b=a.length)↔fm a=fm b:=by
 constructor
 ·rintro ⟨h1,h2⟩
  rw [h1] at h2
  have:=(Aj a b).1 h2
  exact (this.eq_of_length (by simp [fm,h1])).symm
 ·intro h
  have hl:a.length=b.length:=by have:=congrArg List.length h;simpa [fm] using this
  refine ⟨hl,?_⟩
  rw [hl]
  exact (Aj a b).2 (by rw [h];exact List.suffix_refl _)
def er (a b:Name):Bool:=decide (fm a=fm b)
def gq (n top:Name):Bool:=decide (fm top <:+ fm n)
noncomputable def qj (x:Name × Name × Unit):Option AV:=if bw x.1∧bw x.2.1 then some ((r1 (bh .i64)).E true ((common x.1 x.2.1:Int))) else none
set_option maxRecDepth 2000000 in
theorem Aq (x:Name × Name × Unit) (r:AV) (h:qj x=some r):bk PP 106 ((aC au (aC au a0)).E x) r:=by
 by_cases hc:bw x.1∧bw x.2.1
 case neg=>simp only [qj,if_neg hc] at h;cases h
 simp only [qj,if_pos hc] at h
 cases h
 exact ay (ar.cons (ak Wj) (ar.nil PP)) Tryz.func106 (by kernel_rfl) (by kernel_rfl) (by kernel_rfl) (Nat.le_of_ble_eq_true (by kernel_rfl)) (r1 (bh .i64)) true ((common x.1 x.2.1:Int)) (aa0 x.1 x.2.1 hc.1.label hc.2.label hc.1.len hc.2.len)
noncomputable abbrev J3:Nat × Bool × (List AV→M AV):=(106,true,c8 (aC au (aC au a0)) qj)
theorem afv (n top:Name) (hn:bw n) (ht:bw top):wl PP [J3] 0 (Tryz.f72.body.getD .skip) (da PP Tryz.f72.results.toList (fun r st=>(r1 bo).get true st.h r=some (gq n top))) (cj 0 [au.val false n,au.val false top]) (bj []):=by
 unfold Tryz.f72
 simp only [cr]
 simp only [↓wR,RA,simprocAttr,TF,qj,hn,ht]
 congr 1
 unfold gq
 have:=Aj n top
 rw [Bool.eq_iff_iff];simp [← this];omega
noncomputable def uc (x:Name × Name × Unit):Option AV:=if bw x.1∧bw x.2.1 then some ((r1 bo).E true (gq x.1 x.2.1)) else none
set_option maxRecDepth 2000000 in
theorem Bq (x:Name × Name × Unit) (r:AV) (h:uc x=some r):bk PP 72 ((aC au (aC au a0)).E x) r:=by
 by_cases hc:bw x.1∧bw x.2.1
 case neg=>simp only [uc,if_neg hc] at h;cases h
 simp only [uc,if_pos hc] at h
 cases h
 exact ay (ar.cons (ak Aq) (ar.nil PP)) Tryz.func72 (by kernel_rfl) (by kernel_rfl) (by kernel_rfl) (Nat.le_of_ble_eq_true (by kernel_rfl)) (r1 bo) true (gq x.1 x.2.1) (afv x.1 x.2.1 hc.1 hc.2)
noncomputable abbrev N3:Nat × Bool × (List AV→M AV):=(72,true,c8 (aC au (aC au a0)) uc)
theorem ai1 (n top:Name) (hn:bw n) (ht:bw top):wl PP [J3] 0 (Tryz.f52.body.getD .skip) (da PP Tryz.f52.results.toList (fun r st=>(r1 bo).get true st.h r=some (er n top))) (cj 0 [au.val false n,au.val false top]) (bj []):=by
 unfold Tryz.f52
 simp only [cr]
 simp only [↓wR,RA,simprocAttr,TF,qj,hn,ht]
 rw [di];refine ⟨fun h=>?_,fun h=>?_⟩
 ·have hl:n.length=top.length:=by simp at h;omega
  simp only [↓wR,RA,simprocAttr,TF,h,qj,hn,ht]
  congr 1
  unfold er
  have:=Cr n top
  rw [Bool.eq_iff_iff];simp [← this,hl];omega
 ·have hl:¬ n.length=top.length:=by simp at h;omega
  simp only [↓wR,RA,simprocAttr,TF,h]
  have:=Cr n top
  simp [er,← this,hl]
noncomputable def jr (x:Name × Name × Unit):Option AV:=if bw x.1∧bw x.2.1 then some ((r1 bo).E true (er x.1 x.2.1)) else none
set_option maxRecDepth 2000000 in
theorem pv (x:Name × Name × Unit) (r:AV) (h:jr x=some r):bk PP 52 ((aC au (aC au a0)).E x) r:=by
 by_cases hc:bw x.1∧bw x.2.1
 case neg=>simp only [jr,if_neg hc] at h;cases h
 simp only [jr,if_pos hc] at h
 cases h
 exact ay (ar.cons (ak Aq) (ar.nil PP)) Tryz.func52 (by kernel_rfl) (by kernel_rfl) (by kernel_rfl) (Nat.le_of_ble_eq_true (by kernel_rfl)) (r1 bo) true (er x.1 x.2.1) (ai1 x.1 x.2.1 hc.1 hc.2)
noncomputable abbrev fw:Nat × Bool × (List AV→M AV):=(52,true,c8 (aC au (aC au a0)) jr)
noncomputable def abh (a b:Name) (k:Nat):Int:=
 match a[a.length - 1 - k]?,b[b.length - 1 - k]? with
 |some x,some y=>vi (fold x) (fold y)
 |_,_=>0
noncomputable def nr (a b:Name):Int:=
 if common a b=a.length∧common a b=b.length then 0 else if common a b=a.length then -1 else if common a b=b.length then 1 else abh a b (common a b)
theorem Ww (a b:Name) (ha:bw a) (hb:bw b):wl PP [J3,agw] 0 (Tryz.f58.body.getD .skip) (da PP Tryz.f58.results.toList (fun r st=>(r1 (bh .i64)).get true st.h r=some (nr a b))) (cj 0 [au.val false a,au.val false b]) (bj []):=by
 unfold Tryz.f58
 simp only [cr]
 simp only [↓wR,RA,simprocAttr,TF,qj,ha,hb]
 have h1:=zo a.reverse b.reverse
 have h2:=El a.reverse b.reverse
 rw [List.length_reverse] at h1 h2
 change common a b≤a.length at h1
 change common a b≤b.length at h2
 obtain ⟨k,hk⟩:∃ k,common a b=k:=⟨_,rfl⟩
 rw [hk] at h1 h2
 unfold nr
 rw [hk]
 rw [di];refine ⟨fun h=>?_,fun h=>?_⟩
 ·simp only [↓wR,RA,simprocAttr,TF,h]
  have hka:k=a.length:=by simp at h;omega
  rw [di];refine ⟨fun h3=>?_,fun h3=>?_⟩
  ·have hkb:k=b.length:=by simp at h3;omega
   simp only [↓wR,RA,simprocAttr,TF,h3]
   rw [if_pos ⟨hka,hkb⟩]
  ·have hkb:¬ k=b.length:=by simp at h3;omega
   simp only [↓wR,RA,simprocAttr,TF,h3,h]
   rw [if_neg (fun e=>hkb e.2),if_pos hka]
 ·simp only [↓wR,RA,simprocAttr,TF,h]
  have hka:¬ k=a.length:=by simp at h;omega
  rw [di];refine ⟨fun h3=>?_,fun h3=>?_⟩
  ·have hkb:k=b.length:=by simp at h3;omega
   simp only [↓wR,RA,simprocAttr,TF,h3]
   rw [if_neg (fun e=>hka e.1),if_neg hka,if_pos hkb]
  ·have hkb:¬ k=b.length:=by simp at h3;omega
   rw [if_neg (fun e=>hka e.1),if_neg hka,if_neg hkb]
   obtain ⟨x,hx⟩:∃ x,a[a.length - 1 - k]? = some x:=⟨_,List.getElem?_eq_getElem (by omega)⟩
   obtain ⟨y,hy⟩:∃ y,b[b.length - 1 - k]? = some y:=⟨_,List.getElem?_eq_getElem (by omega)⟩
   simp only [↓wR,RA,simprocAttr,TF,h3]
   refine ⟨by kernel_rfl,.inl ?_⟩
   have la:=ha.len
   have lb:=hb.len
   simp (disch:=omega) only [ag,bf,bg,be,bb]
   have e1:(((a.length:Int) - 1) - k).toNat=a.length - 1 - k:=by omega
   have e2:(0:Int)≤((a.length:Int) - 1) - k:=by omega
   have e3:(((b.length:Int) - 1) - k).toNat=b.length - 1 - k:=by omega
   have e4:(0:Int)≤((b.length:Int) - 1) - k:=by omega
   simp only [↓wR,RA,simprocAttr,TF,hx,e1,e2]
   simp (disch:=omega) only [ag,bf,bg,be,bb]
   simp only [↓wR,RA,simprocAttr,TF,hy,e3,e4,uw,ha.label x (List.mem_of_getElem? hx),hb.label y (List.mem_of_getElem? hy)]
   exact ⟨by kernel_rfl,by simp [abh,hx,hy]⟩
noncomputable def tc (x:Name × Name × Unit):Option AV:=if bw x.1∧bw x.2.1 then some ((r1 (bh .i64)).E true (nr x.1 x.2.1)) else none
set_option maxRecDepth 2000000 in
theorem Fq (x:Name × Name × Unit) (r:AV) (h:tc x=some r):bk PP 58 ((aC au (aC au a0)).E x) r:=by
 by_cases hc:bw x.1∧bw x.2.1
 case neg=>simp only [tc,if_neg hc] at h;cases h
 simp only [tc,if_pos hc] at h
 cases h
 exact ay (ar.cons (ak Aq) (ar.cons (ak Pj) (ar.nil PP))) Tryz.func58 (by kernel_rfl) (by kernel_rfl) (by kernel_rfl) (Nat.le_of_ble_eq_true (by kernel_rfl)) (r1 (bh .i64)) true (nr x.1 x.2.1) (Ww x.1 x.2.1 hc.1 hc.2)
noncomputable abbrev Qg:Nat × Bool × (List AV→M AV):=(58,true,c8 (aC au (aC au a0)) tc)
theorem bw.lt {n:Name} (h:bw n):n.length<16777216:=by have:=(j8 n 0).2;unfold bw at h;omega
theorem aif (n:Name) (hn:bw n):wl PP [] 0 (Tryz.f73.body.getD .skip) (da PP Tryz.f73.results.toList (fun r st=>(r1 au).get true st.h r=some n)) (cj 0 [au.val false n]) (bj []):=by
 unfold Tryz.f73
 simp only [cr]
 have hlim:n.length * 16≤140737488355328:=by have:=hn.lt;omega
 simp only [↓wR,RA,simprocAttr,TF,hlim]
noncomputable def qn (x:Name × Unit):Option AV:=if bw x.1 then some ((r1 au).E true (x.1)) else none
set_option maxRecDepth 2000000 in
theorem ri (x:Name × Unit) (r:AV) (h:qn x=some r):bk PP 73 ((aC au a0).E x) r:=by
 by_cases hc:bw x.1
 case neg=>simp only [qn,if_neg hc] at h;cases h
 simp only [qn,if_pos hc] at h
 cases h
 exact ay (ar.nil PP) Tryz.func73 (by kernel_rfl) (by kernel_rfl) (by kernel_rfl) (Nat.le_of_ble_eq_true (by kernel_rfl)) (r1 au) true (x.1) (aif x.1 hc)
noncomputable abbrev Be:Nat × Bool × (List AV→M AV):=(73,true,c8 (aC au a0) qn)
theorem auv {n:Name} {i:Nat} {c:ByteArray} (hc:n[i]? = some c):fm (n.drop i)=fold c::fm (n.drop (i+1)):=by rw [Ce hc];rfl
theorem ai4 (n:Name) (hn:bw n):wl PP [L8] 0 (Tryz.f186.body.getD .skip) (da PP Tryz.f186.results.toList (fun r st=>(r1 au).get true st.h r=some (fm n))) (cj 0 [au.val false n]) (bj []):=by
 unfold Tryz.f186
 simp only [cr]
 have hln:=hn.lt
 simp only [↓wR,RA,simprocAttr,TF]
 refine fj [6,7,8,3] (fun (x:List ByteArray)=>[.vl false 1 (n.map (aj.val false)),.sc (.int .i64 n.length),.sc (.int .i64 x.length),.sl 0 0 x.length 1]) (fun x=>[some (.row (x.map (aj.val false)) 0 0 9)]) (fun x=>x++fm (n.drop x.length)=fm n∧x.length≤n.length) (fun x=>n.length - x.length) [] ⟨rfl,Nat.zero_le _⟩ (by simp only [↓wR,RA,simprocAttr,TF];(refine ji.lax [] (by first|exact Nat.le_of_ble_eq_true rfl|(simp [dk];omega)) ?_ ?_<;>repeat' first|exact ef.nil|exact b9.nil|exact fe.same _|exact fe.nil _ _ _|exact fe.lu _ _|exact b9.refl _ _|apply ef.cons|apply b9.ghost|apply b9.same|apply b9.row)) ?_
 rintro x ⟨hR,hx⟩
 simp only [↓wR,RA,simprocAttr,TF]
 rw [di];refine ⟨fun h=>?_,fun h=>?_⟩
 ·obtain ⟨c,hc,hd,hlt⟩:=dx h
  have hlim:(x.length+1) * 16≤140737488355328:=by omega
  simp only [↓wR,RA,simprocAttr,TF,hc,um,hn.label c (List.mem_of_getElem? hc),hlim]
  refine ⟨x++[fold c],⟨?_,by simp;omega⟩,by simp;omega,by (first|rfl|trivial|omega|((try (simp (disch:=omega) only [ag]));(try (simp only [FB]));first|done|rfl|omega)),by (first|rfl|trivial|omega|((try (simp (disch:=omega) only [ag]));(try (simp only [FB]));first|done|rfl|omega))⟩
  rw [← hR,auv hc];simp
 ·rw [fl h] at hR
  simp only [↓wR,RA,simprocAttr,TF,h]
  simpa [fm] using hR
noncomputable def Di (x:Name × Unit):Option AV:=if bw x.1 then some ((r1 au).E true (fm x.1)) else none
set_option maxRecDepth 2000000 in
theorem aag (x:Name × Unit) (r:AV) (h:Di x=some r):bk PP 186 ((aC au a0).E x) r:=by
 by_cases hc:bw x.1
 case neg=>simp only [Di,if_neg hc] at h;cases h
 simp only [Di,if_pos hc] at h
 cases h
 exact ay (ar.cons (ak Bh) (ar.nil PP)) Tryz.func186 (by kernel_rfl) (by kernel_rfl) (by kernel_rfl) (Nat.le_of_ble_eq_true (by kernel_rfl)) (r1 au) true (fm x.1) (ai4 x.1 hc)
noncomputable abbrev avb:Nat × Bool × (List AV→M AV):=(186,true,c8 (aC au a0) Di)
theorem K3 {n:Name} (h:du n=0):ca n≤255:=by
 unfold du at h
 split at h
 ·cases h
 ·split at h
  ·cases h
  ·omega
theorem bw.fit {n:Name} (h:bw n):ca n<17592186044416:=by unfold bw at h;omega
def Ja:ByteArray:=⟨#[42]⟩
def il (s:ByteArray):List UInt8:=UInt8.ofNat s.size::s.data.toList
def nameBytes (n:Name):List UInt8:=n.flatMap il++[0]
def k7 (n:Name):List UInt8:=if du n≠0 then [] else nameBytes n
theorem Bv (s):(il s).length=s.size+1:=by simp [il]
theorem ur (n:Name):(n.flatMap il).length+1=ca n:=by
 induction n with
 |nil=>rfl
 |cons a l ih=>
  have:=ru [a] l
  have h3:ca [a]=a.size+2:=by simp [ca];omega
  simp only [List.singleton_append] at this
  simp only [List.flatMap_cons,List.length_append,Bv]
  omega
theorem ag9 (n:Name) (hn:bw n):wl PP [ft] 0 (Tryz.f199.body.getD .skip) (da PP Tryz.f199.results.toList (fun r st=>(r2 (cq bu) (bh .i64)).get true st.h r=some (k7 n,du n))) (cj 0 [au.val false n]) (bj []):=by
 unfold Tryz.f199
 simp only [cr]
 have hln:=hn.lt
 simp only [↓wR,RA,simprocAttr,TF,sd,hn.fit]
 rw [di];refine ⟨fun h=>?_,fun h=>?_⟩
 ·have he:du n≠0:=by simpa using h
  have hb:k7 n=[]:=if_pos he
  simp only [↓wR,RA,simprocAttr,TF,hb]
 have he:du n=0:=by simpa using h
 have hb:k7 n=nameBytes n:=if_neg (by omega)
 rw [hb,he]
 simp only [↓wR,RA,simprocAttr,TF]
 refine fj [13,14,15,5] (fun (x:Nat × List UInt8)=>[.vl false 1 (n.map (aj.val false)),.sc (.int .i64 n.length),.sc (.int .i64 x.1),.sl 0 0 x.2.length 1]) (fun x=>[some (.row (x.2.map (bu.val false)) 0 0 5)]) (fun x=>x.2++(n.drop x.1).flatMap il=n.flatMap il∧x.1≤n.length) (fun x=>n.length - x.1) (0,[]) ⟨rfl,Nat.zero_le _⟩ (by simp only [↓wR,RA,simprocAttr,TF];(refine ji.lax [] (by first|exact Nat.le_of_ble_eq_true rfl|(simp [dk];omega)) ?_ ?_<;>repeat' first|exact ef.nil|exact b9.nil|exact fe.same _|exact fe.nil _ _ _|exact fe.lu _ _|exact b9.refl _ _|apply ef.cons|apply b9.ghost|apply b9.same|apply b9.row)) ?_
 rintro ⟨i,x⟩ ⟨hR,hx⟩
 simp only at hR hx
 have hnb:=ur n
 have hsm:=K3 he
 simp only [↓wR,RA,simprocAttr,TF]
 rw [di];refine ⟨fun h2=>?_,fun h2=>?_⟩
 ·obtain ⟨c,hc,hd,hlt⟩:=dx h2
  rw [hd,List.flatMap_cons] at hR
  have hl:x.length+(il c).length≤(n.flatMap il).length:=by rw [← hR];simp
  rw [Bv] at hl
  simp only [↓wR,RA,simprocAttr,TF,hc];repeat (simp (disch:=omega) only [ag,bf,bg,be,bb];try simp only [↓wR,RA,simprocAttr,TF,hc])
  refine ⟨(i+1,x++il c),⟨by rw [← hR];simp,hlt⟩,by simp;omega,?_,by simp only [il,List.map_append,List.map_cons,List.append_assoc,List.singleton_append,C9]⟩
  simp only [List.cons.injEq,and_true,true_and,AV.sc.injEq,Value.int.injEq,AV.sl.injEq,il,List.length_append,List.length_cons]
  refine ⟨by (try simp (disch:=omega) only [ag,bf,bg,be,bb]);simp,by simp;omega⟩
 ·rw [fl h2] at hR
  have hl:x.length<ca n:=by rw [← hnb,← hR];simp
  simp only [↓wR,RA,simprocAttr,TF,h2];repeat (simp (disch:=omega) only [ag,bf,bg,be,bb];try simp only [↓wR,RA,simprocAttr,TF,h2])
  simp only [nameBytes,← hR];simp
noncomputable def vh (x:Name × Unit):Option AV:=if bw x.1 then some ((r2 (cq bu) (bh .i64)).E true ((k7 x.1,du x.1))) else none
set_option maxRecDepth 2000000 in
theorem Vg (x:Name × Unit) (r:AV) (h:vh x=some r):bk PP 199 ((aC au a0).E x) r:=by
 by_cases hc:bw x.1
 case neg=>simp only [vh,if_neg hc] at h;cases h
 simp only [vh,if_pos hc] at h
 cases h
 exact ay (ar.cons (ak tn) (ar.nil PP)) Tryz.func199 (by kernel_rfl) (by kernel_rfl) (by kernel_rfl) (Nat.le_of_ble_eq_true (by kernel_rfl)) (r2 (cq bu) (bh .i64)) true ((k7 x.1,du x.1)) (ag9 x.1 hc)
noncomputable abbrev ams:Nat × Bool × (List AV→M AV):=(199,true,c8 (aC au a0) vh)
end Go.Proofs.YtgencolcibpcaaaGreat
end
section
namespace Go.Proofs.YtgencolcibpcaaaGreat
open Go.Vm
set_option maxRecDepth 2000000
theorem Jt {α:Type} {f : α→AV} {xs:List α} (h:xs≠[]) (op l sz p q):O9 op (.vl l sz (xs.map f)) (.sc (.slice none p q))=qc op false:=by
 cases xs with
 |nil=>exact (h rfl).elim
 |cons x xs=>rfl
def Nx (v:Value):Prop:=v = .slice none 0 0∨∃ a c,v = .slice (some a) 0 c
theorem Bg {f:Nat} {r:AV} {sz:Nat} (h:∀ v,Nx v→bk PP f [.sc v] r):bk PP f [.vl false sz []] r:=by
 intro K w vs hK hrel
 obtain ⟨v,rfl,hv⟩:=Sc hrel
 have hE:Nx v:=by
  cases hv with
  |vl=>exact .inr ⟨_,_,rfl⟩
  |k8=>exact .inl rfl
  |tq=>exact .inr ⟨_,_,rfl⟩
 exact h v hE K w [v] hK (cf.cons (.sc v) (cf.nil _ _))
theorem ahj (l:List UInt32) (hne:l≠[]) (hl:l.length≤16777216):wl PP [] 0 (Tryz.f146.body.getD .skip) (da PP Tryz.f146.results.toList (fun r st=>(r1 (cq cw)).get true st.h r=some l)) (cj 0 [(cq cw).val false l]) (bj []):=by
 unfold Tryz.f146
 rw [om]
 have hb:l.length * 4≤140737488355328:=by omega
 simp only [↓wR,RA,simprocAttr,TF,Jt hne,hb]
theorem abw (v:Value) (hv:Nx v):wl PP [] 0 (Tryz.f146.body.getD .skip) (da PP Tryz.f146.results.toList (fun r st=>(r1 (cq cw)).get true st.h r=some [])) (cj 0 [.sc v]) (bj []):=by
 unfold Tryz.f146
 rcases hv with rfl|⟨a,c,rfl⟩
 ·simp only [↓wR,RA,simprocAttr,TF]
 ·simp only [↓wR,RA,simprocAttr,TF]
noncomputable def zf (x:List UInt32 × Unit):Option AV:=if x.1.length≤16777216 then some ((r1 (cq cw)).E true x.1) else none
theorem K8 (x:List UInt32 × Unit) (r:AV) (h:zf x=some r):bk PP 146 ((aC (cq cw) a0).E x) r:=by
 by_cases hc:x.1.length≤16777216
 case neg=>simp only [zf,if_neg hc] at h;cases h
 simp only [zf,if_pos hc] at h
 cases h
 obtain ⟨l,⟨⟩⟩:=x
 by_cases hn:l=[]
 ·subst hn
  exact Bg (sz:=1) fun v hv=>ay (ar.nil PP) Tryz.func146 (by kernel_rfl) (by kernel_rfl) (by kernel_rfl) (Nat.le_of_ble_eq_true (by kernel_rfl)) (r1 (cq cw)) true [] (abw v hv)
 ·exact ay (ar.nil PP) Tryz.func146 (by kernel_rfl) (by kernel_rfl) (by kernel_rfl) (Nat.le_of_ble_eq_true (by kernel_rfl)) (r1 (cq cw)) true l (ahj l hn hc)
noncomputable abbrev ad7:Nat × Bool × (List AV→M AV):=(146,true,c8 (aC (cq cw) a0) zf)
theorem ail (l:List ByteArray) (hne:l≠[]) (hl:l.length≤16777216):wl PP [] 0 (Tryz.f147.body.getD .skip) (da PP Tryz.f147.results.toList (fun r st=>(r1 (cq aj)).get true st.h r=some l)) (cj 0 [(cq aj).val false l]) (bj []):=by
 unfold Tryz.f147
 rw [om]
 have hb:l.length * 16≤140737488355328:=by omega
 simp only [↓wR,RA,simprocAttr,TF,Jt hne,hb]
theorem afi (v:Value) (hv:Nx v):wl PP [] 0 (Tryz.f147.body.getD .skip) (da PP Tryz.f147.results.toList (fun r st=>(r1 (cq aj)).get true st.h r=some [])) (cj 0 [.sc v]) (bj []):=by
 unfold Tryz.f147
 rcases hv with rfl|⟨a,c,rfl⟩
 ·simp only [↓wR,RA,simprocAttr,TF]
 ·simp only [↓wR,RA,simprocAttr,TF]
noncomputable def zh (x:List ByteArray × Unit):Option AV:=if x.1.length≤16777216 then some ((r1 (cq aj)).E true x.1) else none
theorem La (x:List ByteArray × Unit) (r:AV) (h:zh x=some r):bk PP 147 ((aC (cq aj) a0).E x) r:=by
 by_cases hc:x.1.length≤16777216
 case neg=>simp only [zh,if_neg hc] at h;cases h
 simp only [zh,if_pos hc] at h
 cases h
 obtain ⟨l,⟨⟩⟩:=x
 by_cases hn:l=[]
 ·subst hn
  exact Bg (sz:=1) fun v hv=>ay (ar.nil PP) Tryz.func147 (by kernel_rfl) (by kernel_rfl) (by kernel_rfl) (Nat.le_of_ble_eq_true (by kernel_rfl)) (r1 (cq aj)) true [] (afi v hv)
 ·exact ay (ar.nil PP) Tryz.func147 (by kernel_rfl) (by kernel_rfl) (by kernel_rfl) (Nat.le_of_ble_eq_true (by kernel_rfl)) (r1 (cq aj)) true l (ail l hn hc)
noncomputable abbrev ack:Nat × Bool × (List AV→M AV):=(147,true,c8 (aC (cq aj) a0) zh)
theorem al7 (l:List UInt8) (hne:l≠[]) (hl:l.length≤16777216):wl PP [] 0 (Tryz.f148.body.getD .skip) (da PP Tryz.f148.results.toList (fun r st=>(r1 (cq bu)).get true st.h r=some l)) (cj 0 [(cq bu).val false l]) (bj []):=by
 unfold Tryz.f148
 rw [om]
 have hb:l.length≤140737488355328:=by omega
 simp only [↓wR,RA,simprocAttr,TF,Jt hne,hb]
theorem aiz (v:Value) (hv:Nx v):wl PP [] 0 (Tryz.f148.body.getD .skip) (da PP Tryz.f148.results.toList (fun r st=>(r1 (cq bu)).get true st.h r=some [])) (cj 0 [.sc v]) (bj []):=by
 unfold Tryz.f148
 rcases hv with rfl|⟨a,c,rfl⟩
 ·simp only [↓wR,RA,simprocAttr,TF]
 ·simp only [↓wR,RA,simprocAttr,TF]
noncomputable def Ci (x:List UInt8 × Unit):Option AV:=if x.1.length≤16777216 then some ((r1 (cq bu)).E true x.1) else none
theorem Mu (x:List UInt8 × Unit) (r:AV) (h:Ci x=some r):bk PP 148 ((aC (cq bu) a0).E x) r:=by
 by_cases hc:x.1.length≤16777216
 case neg=>simp only [Ci,if_neg hc] at h;cases h
 simp only [Ci,if_pos hc] at h
 cases h
 obtain ⟨l,⟨⟩⟩:=x
 by_cases hn:l=[]
 ·subst hn
  exact Bg (sz:=1) fun v hv=>ay (ar.nil PP) Tryz.func148 (by kernel_rfl) (by kernel_rfl) (by kernel_rfl) (Nat.le_of_ble_eq_true (by kernel_rfl)) (r1 (cq bu)) true [] (aiz v hv)
 ·exact ay (ar.nil PP) Tryz.func148 (by kernel_rfl) (by kernel_rfl) (by kernel_rfl) (Nat.le_of_ble_eq_true (by kernel_rfl)) (r1 (cq bu)) true l (al7 l hn hc)
noncomputable abbrev ak8:Nat × Bool × (List AV→M AV):=(148,true,c8 (aC (cq bu) a0) Ci)
structure Shape where
 names:Int
 nums:Int
 size:Int
 texts:Int
 raw:Int
noncomputable def uh:dm Shape:=Db (m4 (bh .i64) (m4 (bh .i64) (m4 (bh .i64) (m4 (bh .i64) (bh .i64))))) (fun s=>(s.names,s.nums,s.size,s.texts,s.raw)) (fun p=>⟨p.1,p.2.1,p.2.2.1,p.2.2.2.1,p.2.2.2.2⟩) (fun _=>rfl) (fun _=>rfl)
theorem E5 (l:Bool) (s:Shape):uh.val l s = .agg [.sc (.int .i64 s.names),.sc (.int .i64 s.nums),.sc (.int .i64 s.size),.sc (.int .i64 s.texts),.sc (.int .i64 s.raw)]:=id rfl
theorem ln (fr h) (a b c d e:Int):uh.jf fr h (.agg [.sc (.int .i64 a),.sc (.int .i64 b),.sc (.int .i64 c),.sc (.int .i64 d),.sc (.int .i64 e)])=some ⟨a,b,c,d,e⟩:=azc uh fr h ⟨a,b,c,d,e⟩
def db (t:UInt16):Shape:=
 if (t.toNat:Int)=1 then ⟨0,0,0,0,4⟩ else if (t.toNat:Int)=28 then ⟨0,0,0,0,16⟩ else if (t.toNat:Int)=2 then ⟨1,0,0,0,0⟩ else if (t.toNat:Int)=5 then ⟨1,0,0,0,0⟩ else if (t.toNat:Int)=12 then ⟨1,0,0,0,0⟩
 else if (t.toNat:Int)=6 then ⟨2,5,4,0,0⟩ else if (t.toNat:Int)=15 then ⟨1,1,2,0,0⟩ else if (t.toNat:Int)=33 then ⟨1,3,2,0,0⟩ else if (t.toNat:Int)=16 then ⟨0,0,0,-1,0⟩ else if (t.toNat:Int)=257 then ⟨0,1,1,2,0⟩ else ⟨0,0,0,0,-1⟩
theorem aqd (t:UInt16):wl PP [] 0 (Tryz.f183.body.getD .skip) (da PP Tryz.f183.results.toList (fun r st=>(r1 uh).get true st.h r=some (db t))) (cj 0 [cg.val false t]) (bj []):=by
 unfold Tryz.f183
 unfold db
 simp only [↓wR,RA,simprocAttr,TF]
 rw [cp];refine ⟨fun ⟨h0,e0⟩=>?_,fun ⟨h0,e0⟩=>?_⟩
 ·simp only [↓wR,RA,simprocAttr,TF,h0]
  rw [if_pos e0]
  exact ln ..
 rw [if_neg e0]
 simp only [↓wR,RA,simprocAttr,TF,h0]
 rw [cp];refine ⟨fun ⟨h1,e1⟩=>?_,fun ⟨h1,e1⟩=>?_⟩
 ·simp only [↓wR,RA,simprocAttr,TF,h1]
  rw [if_pos e1]
  exact ln ..
 rw [if_neg e1]
 simp only [↓wR,RA,simprocAttr,TF,h1]
 rw [cp];refine ⟨fun ⟨h2,e2⟩=>?_,fun ⟨h2,e2⟩=>?_⟩
 ·simp only [↓wR,RA,simprocAttr,TF,h2]
  rw [if_pos e2]
  exact ln ..
 rw [if_neg e2]
 simp only [↓wR,RA,simprocAttr,TF,h2]
 rw [cp];refine ⟨fun ⟨h3,e3⟩=>?_,fun ⟨h3,e3⟩=>?_⟩
 ·simp only [↓wR,RA,simprocAttr,TF,h3]
  rw [if_pos e3]
  exact ln ..
 rw [if_neg e3]
 simp only [↓wR,RA,simprocAttr,TF,h3]
 rw [cp];refine ⟨fun ⟨h4,e4⟩=>?_,fun ⟨h4,e4⟩=>?_⟩
 ·simp only [↓wR,RA,simprocAttr,TF,h4]
  rw [if_pos e4]
  exact ln ..
 rw [if_neg e4]
 simp only [↓wR,RA,simprocAttr,TF,h4]
 rw [cp];refine ⟨fun ⟨h5,e5⟩=>?_,fun ⟨h5,e5⟩=>?_⟩
 ·simp only [↓wR,RA,simprocAttr,TF,h5]
  rw [if_pos e5]
  exact ln ..
 rw [if_neg e5]
 simp only [↓wR,RA,simprocAttr,TF,h5]
 rw [cp];refine ⟨fun ⟨h6,e6⟩=>?_,fun ⟨h6,e6⟩=>?_⟩
 ·simp only [↓wR,RA,simprocAttr,TF,h6]
  rw [if_pos e6]
  exact ln ..
 rw [if_neg e6]
 simp only [↓wR,RA,simprocAttr,TF,h6]
 rw [cp];refine ⟨fun ⟨h7,e7⟩=>?_,fun ⟨h7,e7⟩=>?_⟩
 ·simp only [↓wR,RA,simprocAttr,TF,h7]
  rw [if_pos e7]
  exact ln ..
 rw [if_neg e7]
 simp only [↓wR,RA,simprocAttr,TF,h7]
 rw [cp];refine ⟨fun ⟨h8,e8⟩=>?_,fun ⟨h8,e8⟩=>?_⟩
 ·simp only [↓wR,RA,simprocAttr,TF,h8]
  rw [if_pos e8]
  exact ln ..
 rw [if_neg e8]
 simp only [↓wR,RA,simprocAttr,TF,h8]
 rw [cp];refine ⟨fun ⟨h9,e9⟩=>?_,fun ⟨h9,e9⟩=>?_⟩
 ·simp only [↓wR,RA,simprocAttr,TF,h9]
  rw [if_pos e9]
  exact ln ..
 rw [if_neg e9]
 simp only [↓wR,RA,simprocAttr,TF,h9]
 exact ln ..
noncomputable def Fg (x:UInt16 × Unit):Option AV:=some ((r1 uh).E true (db x.1))
set_option maxRecDepth 2000000 in
theorem E6 (x:UInt16 × Unit) (r:AV) (h:Fg x=some r):bk PP 183 ((aC cg a0).E x) r:=by
 cases h
 exact ay (ar.nil PP) Tryz.func183 (by kernel_rfl) (by kernel_rfl) (by kernel_rfl) (Nat.le_of_ble_eq_true (by kernel_rfl)) (r1 uh) true (db x.1) (aqd x.1)
noncomputable abbrev W8:Nat × Bool × (List AV→M AV):=(183,true,c8 (aC cg a0) Fg)
def mn (t:UInt16):Bool:=(t.toNat:Int) == 0 || (decide ((128:Int)≤(t.toNat:Int)) && decide ((t.toNat:Int)≤255))
theorem ars (t:UInt16):wl PP [] 0 (Tryz.f182.body.getD .skip) (da PP Tryz.f182.results.toList (fun r st=>(r1 bo).get true st.h r=some (mn t))) (cj 0 [cg.val false t]) (bj []):=by
 unfold Tryz.f182
 unfold mn
 simp only [↓wR,RA,simprocAttr,TF]
 rw [cp];refine ⟨fun ⟨h,e⟩=>?_,fun ⟨h,e⟩=>?_⟩
 ·simp only [↓wR,RA,simprocAttr,TF,h]
 ·simp only [↓wR,RA,simprocAttr,TF,h]
  rw [aw];refine ⟨fun h2=>?_,fun h2=>?_⟩
  ·simp only [↓wR,RA,simprocAttr,TF,h2]
  ·simp only [↓wR,RA,simprocAttr,TF,h2]
   rfl
noncomputable def W2 (x:UInt16 × Unit):Option AV:=some ((r1 bo).E true (mn x.1))
set_option maxRecDepth 2000000 in
theorem ahb (x:UInt16 × Unit) (r:AV) (h:W2 x=some r):bk PP 182 ((aC cg a0).E x) r:=by
 cases h
 exact ay (ar.nil PP) Tryz.func182 (by kernel_rfl) (by kernel_rfl) (by kernel_rfl) (Nat.le_of_ble_eq_true (by kernel_rfl)) (r1 bo) true (mn x.1) (ars x.1)
noncomputable abbrev azl:Nat × Bool × (List AV→M AV):=(182,true,c8 (aC cg a0) W2)
noncomputable def A7 (n:UInt32):List UInt8:=[UInt8.ofNat (n.toNat / 16777216),UInt8.ofNat (n.toNat / 65536),UInt8.ofNat (n.toNat / 256),UInt8.ofNat n.toNat]
theorem auo (n:UInt32):wl PP [] 0 (Tryz.f198.body.getD .skip) (da PP Tryz.f198.results.toList (fun r st=>(r1 (cq bu)).get true st.h r=some (A7 n))) (cj 0 [cw.val false n]) (bj []):=by
 unfold Tryz.f198
 simp only [↓wR,RA,simprocAttr,TF]
 rfl
noncomputable def Oz (x:UInt32 × Unit):Option AV:=some ((r1 (cq bu)).E true (A7 x.1))
set_option maxRecDepth 2000000 in
theorem aiv (x:UInt32 × Unit) (r:AV) (h:Oz x=some r):bk PP 198 ((aC cw a0).E x) r:=by
 cases h
 exact ay (ar.nil PP) Tryz.func198 (by kernel_rfl) (by kernel_rfl) (by kernel_rfl) (Nat.le_of_ble_eq_true (by kernel_rfl)) (r1 (cq bu)) true (A7 x.1) (auo x.1)
noncomputable abbrev az0:Nat × Bool × (List AV→M AV):=(198,true,c8 (aC cw a0) Oz)
def Cc (c:UInt8):Bool:=decide (97≤c.toNat∧c.toNat≤122∨65≤c.toNat∧c.toNat≤90∨48≤c.toNat∧c.toNat≤57)
def tm (s:ByteArray):Bool:=s.data.toList.all Cc && decide (1≤s.size∧s.size≤15)
theorem aAw (s:ByteArray) (hs:s.size≤16777216):wl PP [] 0 (Tryz.f195.body.getD .skip) (da PP Tryz.f195.results.toList (fun r st=>(r1 bo).get true st.h r=some (tm s))) (cj 0 [aj.val false s]) (bj []):=by
 unfold Tryz.f195
 simp only [↓wR,RA,simprocAttr,TF]
 refine c7 [0,6,7] (fun (i:Nat)=>[.sc (.string s),.sc (.int .i64 s.size),.sc (.int .i64 i)]) (fun _=>[]) (fun i=>i≤s.size∧s.data.toList.all Cc=(s.data.toList.drop i).all Cc) (fun i=>s.size - i) 0 ⟨Nat.zero_le _,rfl⟩ ?_ ?_ ?_
 ·simp only [↓wR,RA,simprocAttr,TF]<;>rfl
 ·simp only [↓wR,RA,simprocAttr,TF]
 rintro i ⟨hi,hR⟩
 simp only [↓wR,RA,simprocAttr,TF]
 rw [aw];refine ⟨fun h=>?_,fun h=>?_⟩
 ·obtain ⟨c,hc⟩:∃ c,s.data.toList[i]? = some c:=⟨_,List.getElem?_eq_getElem (by simp;omega)⟩
  have hd:=Ce hc
  rw [hd,List.all_cons] at hR
  simp only [↓wR,RA,simprocAttr,TF,h,hc];repeat (simp (disch:=omega) only [ag,bf,bg,be,bb];try simp only [↓wR,RA,simprocAttr,TF,h,hc])
  repeat' (rw [aw];refine ⟨fun h=>?_,fun h=>?_⟩<;>simp only [↓wR,RA,simprocAttr,TF,h,hc])
  all_goals first
   |(
    have ht:Cc c=false:=by (unfold Cc;rw [decide_eq_false_iff_not];omega)
    rw [tm,hR,ht];rfl)
   |(
    have ht:Cc c=true:=by (unfold Cc;rw [decide_eq_true_eq];omega)
    refine ⟨i+1,⟨by omega,by rw [hR,ht];simp⟩,by omega,by (first|rfl|trivial|omega|((try (simp (disch:=omega) only [ag]));(try (simp only [FB]));first|done|rfl|omega))⟩)
 ·have hdn:s.data.toList.drop i=[]:=List.drop_eq_nil_of_le (by simp;omega)
  rw [hdn,List.all_nil] at hR
  simp only [↓wR,RA,simprocAttr,TF,h]
  unfold tm
  rw [hR]
  rw [aw];refine ⟨fun h1=>?_,fun h1=>?_⟩
  ·simp only [↓wR,RA,simprocAttr,TF,h1]
   congr 1
   rw [Bool.eq_iff_iff];simp;omega
  ·simp only [↓wR,RA,simprocAttr,TF,h1]
   congr 1
   rw [Bool.eq_iff_iff];simp;omega
noncomputable def Tl (x:ByteArray × Unit):Option AV:=if x.1.size≤16777216 then some ((r1 bo).E true (tm x.1)) else none
set_option maxRecDepth 2000000 in
theorem aqz (x:ByteArray × Unit) (r:AV) (h:Tl x=some r):bk PP 195 ((aC aj a0).E x) r:=by
 by_cases hc:x.1.size≤16777216
 case neg=>simp only [Tl,if_neg hc] at h;cases h
 simp only [Tl,if_pos hc] at h
 cases h
 exact ay (ar.nil PP) Tryz.func195 (by kernel_rfl) (by kernel_rfl) (by kernel_rfl) (Nat.le_of_ble_eq_true (by kernel_rfl)) (r1 bo) true (tm x.1) (aAw x.1 hc)
noncomputable abbrev aCk:Nat × Bool × (List AV→M AV):=(195,true,c8 (aC aj a0) Tl)
def gj {α:Type} (f : α→Nat) (l:List α):Nat:=l.foldr (fun x k=>f x+k+1) 0
def Ba (d:bt):Nat:=gj ca d.names+d.nums.length+gj ByteArray.size d.texts+d.raw.length
theorem H6 {α:Type} {f : α→Nat} {l:List α} {x : α} (h:x ∈ l):f x<gj f l:=by
 induction l with
 |nil=>cases h
 |cons a l ih=>
  simp only [gj,List.foldr_cons] at ih ⊢
  rcases List.mem_cons.1 h with rfl|h
  ·omega
  ·have:=ih h;omega
theorem Et {α:Type} (f : α→Nat) (l:List α):l.length≤gj f l:=by
 induction l with
 |nil=>exact Nat.le_refl _
 |cons a l ih=>simp only [gj,List.foldr_cons,List.length_cons] at ih ⊢;omega
def cy (d:bt):Prop:=Ba d≤16777216
instance (d:bt):Decidable (cy d):=inferInstanceAs (Decidable (_≤_))
theorem cy.name {d:bt} (h:cy d):∀ n ∈ d.names,bw n:=fun n hn=>by
 have h1:ca n<gj ca d.names:=H6 hn
 unfold cy Ba at h;unfold bw;omega
theorem cy.text {d:bt} (h:cy d):∀ s ∈ d.texts,s.size≤16777216:=fun s hs=>by
 have h1:ByteArray.size s<gj ByteArray.size d.texts:=H6 hs
 unfold cy Ba at h;omega
theorem cy.lens {d:bt} (h:cy d):d.names.length≤16777216∧d.nums.length≤16777216∧d.texts.length≤16777216∧d.raw.length≤16777216:=by
 have h1:=Et ca d.names
 have h2:=Et ByteArray.size d.texts
 unfold cy Ba at h;omega
noncomputable def Ay (s:Shape):Int:=IntKind.u32.wrap (1 * 2 ^ (if (8 * s.size).toNat≤32 then (8 * s.size).toNat else 32))
noncomputable def sv (s:Shape) (t:UInt16) (d:bt):Bool:=
 if (d.names.length:Int)≠s.names∨(d.nums.length:Int)≠s.nums∨(0≤s.raw∧(d.raw.length:Int)≠s.raw) then false
 else if s.size<4∧(d.nums.any fun n=>decide (Ay s≤(n.toNat:Int)))=true then false
 else if (t.toNat:Int)=257 then decide (d.texts.length=2) && tm (d.texts.headD ⟨#[]⟩)
 else if s.texts=0 then decide (d.texts.length=0)
 else decide (0<d.texts.length) && !(d.texts.any fun x=>decide (255<x.size))
noncomputable def Uc (s:Shape) (t:UInt16) (d:bt):Bool:=
 if s.size<4∧(d.nums.any fun n=>decide (Ay s≤(n.toNat:Int)))=true then false
 else if (t.toNat:Int)=257 then decide (d.texts.length=2) && tm (d.texts.headD ⟨#[]⟩)
 else if s.texts=0 then decide (d.texts.length=0)
 else decide (0<d.texts.length) && !(d.texts.any fun x=>decide (255<x.size))
theorem axi (s:Shape) (t:UInt16) (d:bt) (hs : 0≤s.size∧s.size≤4) (hd:cy d):wl PP [aCk] 0 (Tryz.f184.body.getD .skip) (da PP Tryz.f184.results.toList (fun r st=>(r1 bo).get true st.h r=some (sv s t d))) (cj 0 [uh.val false s,cg.val false t,aq.val false d]) (bj []):=by
 unfold Tryz.f184
 obtain ⟨l1,l2,l3,l4⟩:=hd.lens
 simp only [E5,gw,cr]
 simp only [↓wR,RA,simprocAttr,TF]
 rw [c9];refine ⟨fun ⟨h,e⟩=>?_,fun ⟨h,e⟩=>?_⟩
 ·have hv:sv s t d=false:=if_pos (.inl e)
  simp only [↓wR,RA,simprocAttr,TF,h,hv]
 simp only [↓wR,RA,simprocAttr,TF,h]
 rw [c9];refine ⟨fun ⟨h2,e2⟩=>?_,fun ⟨h2,e2⟩=>?_⟩
 ·have hv:sv s t d=false:=if_pos (.inr (.inl e2))
  simp only [↓wR,RA,simprocAttr,TF,h2,hv]
 simp only [↓wR,RA,simprocAttr,TF,h2]
 have hraw:¬ (0≤s.raw∧(d.raw.length:Int)≠s.raw)→sv s t d=Uc s t d:=fun hr=>if_neg (fun h=>by
  rcases h with h|h|h
  ·exact h e
  ·exact h e2
  ·exact hr h)
 rw [aw];refine ⟨fun h3=>?_,fun h3=>?_⟩
 simp only [↓wR,RA,simprocAttr,TF,h3]
 rw [c9];refine ⟨fun ⟨h4,e4⟩=>?_,fun ⟨h4,e4⟩=>?_⟩
 have hv:sv s t d=false:=if_pos (.inr (.inr ⟨h3,e4⟩))
 simp only [↓wR,RA,simprocAttr,TF,h4,hv]
 rw [hraw (fun q=>q.2 e4)]
 simp only [↓wR,RA,simprocAttr,TF,h4]
 rotate_left
 rw [hraw (fun q=>h3 q.1)]
 simp only [↓wR,RA,simprocAttr,TF,h3]
 all_goals
  clear hraw
  refine c7 [1,3,5,37,38,39] (fun (i:Nat)=>[.sc (.int .u16 t.toNat),.ptr 0 0,.ptr 1 0,.vl false 1 (d.nums.map (cw.val false)),.sc (.int .i64 d.nums.length),.sc (.int .i64 i)]) (fun _=>[some (.row [.sc (.int .i64 s.names),.sc (.int .i64 s.nums),.sc (.int .i64 s.size),.sc (.int .i64 s.texts),.sc (.int .i64 s.raw)] 0 2 198),some (.row [.vl false 1 (d.names.map (au.val false)),.vl false 1 (d.nums.map (cw.val false)),.vl false 1 (d.texts.map (aj.val false)),.vl false 1 (d.raw.map (bu.val false))] 0 2 101)]) (fun i=>i≤d.nums.length∧(s.size<4→(d.nums.any fun n=>decide (Ay s≤(n.toNat:Int)))=((d.nums.drop i).any fun n=>decide (Ay s≤(n.toNat:Int))))) (fun i=>d.nums.length - i) 0 ⟨Nat.zero_le _,fun _=>rfl⟩ (by simp only [↓wR,RA,simprocAttr,TF]<;>rfl) (by simp only [↓wR,RA,simprocAttr,TF]<;>rfl) ?_
  clear h h2 e e2
  rintro i ⟨hi,hR⟩
  simp only [↓wR,RA,simprocAttr,TF]
  rw [aw];refine ⟨fun h=>?_,fun h=>?_⟩
  ·obtain ⟨c,hc,hd1,hlt⟩:=dx (decide_eq_true h)
   rw [hd1,List.any_cons] at hR
   simp only [↓wR,RA,simprocAttr,TF,h,hc]
   rw [aw];refine ⟨fun h5=>?_,fun h5=>?_⟩
   ·have hR:=hR h5
    have h80:(0:Int)≤8 * s.size:=by omega
    simp only [↓wR,RA,simprocAttr,TF,h5,h80];repeat (simp (disch:=omega) only [ag,bf,bg,be,bb];try simp only [↓wR,RA,simprocAttr,TF,h5,h80])
    rw [aw];refine ⟨fun h6=>?_,fun h6=>?_⟩
    ·have hv:Uc s t d=false:=by
      rw [Uc,if_pos ⟨h5,by rw [hR,decide_eq_true (show Ay s≤(c.toNat:Int) from h6)];rfl⟩]
     simp only [↓wR,RA,simprocAttr,TF,h6,hv]
    ·simp only [↓wR,RA,simprocAttr,TF,h6];repeat (simp (disch:=omega) only [ag,bf,bg,be,bb];try simp only [↓wR,RA,simprocAttr,TF,h6])
     refine ⟨i+1,⟨hlt,fun _=>?_⟩,by omega,by (first|rfl|trivial|omega|((try (simp (disch:=omega) only [ag]));(try (simp only [FB]));first|done|rfl|omega))⟩
     rw [hR,decide_eq_false (show ¬ Ay s≤(c.toNat:Int) from h6),Bool.false_or]
   ·simp only [↓wR,RA,simprocAttr,TF,h5];repeat (simp (disch:=omega) only [ag,bf,bg,be,bb];try simp only [↓wR,RA,simprocAttr,TF,h5])
    exact ⟨i+1,⟨hlt,fun h=>h.elim⟩,by omega,by (first|rfl|trivial|omega|((try (simp (disch:=omega) only [ag]));(try (simp only [FB]));first|done|rfl|omega))⟩
  ·rw [fl (decide_eq_false h),List.any_nil] at hR
   have hr:Uc s t d=if (t.toNat:Int)=257 then decide (d.texts.length=2) && tm (d.texts.headD ⟨#[]⟩) else if s.texts=0 then decide (d.texts.length=0) else decide (0<d.texts.length) && !(d.texts.any fun x=>decide (255<x.size)):=by
    rw [Uc,if_neg];rintro ⟨q1,q2⟩;rw [hR q1] at q2;cases q2
   simp only [↓wR,RA,simprocAttr,TF,h]
   rw [cp];refine ⟨fun ⟨h6,e6⟩=>?_,fun ⟨h6,e6⟩=>?_⟩
   ·rw [if_pos e6] at hr
    simp only [↓wR,RA,simprocAttr,TF,h6]
    rw [cp];refine ⟨fun ⟨h7,e7⟩=>?_,fun ⟨h7,e7⟩=>?_⟩
    ·obtain ⟨c,hc⟩:∃ c,d.texts[0]? = some c:=⟨_,List.getElem?_eq_getElem (by omega)⟩
     have hh:d.texts.headD ⟨#[]⟩=c:=by
      cases ht:d.texts with
      |nil=>rw [ht] at hc;cases hc
      |cons a l=>rw [ht] at hc;simpa using hc
     rw [hh,decide_eq_true (show d.texts.length=2 by omega)] at hr
     simp only [↓wR,RA,simprocAttr,TF,h7,hc,Tl,hd.text c (List.mem_of_getElem? hc)]
     rw [hr];rfl
    ·simp only [↓wR,RA,simprocAttr,TF,h7]
     rw [hr,decide_eq_false (show ¬ d.texts.length=2 by omega)];rfl
   ·rw [if_neg e6] at hr
    simp only [↓wR,RA,simprocAttr,TF,h6]
    rw [cp];refine ⟨fun ⟨h7,e7⟩=>?_,fun ⟨h7,e7⟩=>?_⟩
    ·rw [if_pos e7] at hr
     simp only [↓wR,RA,simprocAttr,TF,h7]
     rw [hr];congr 1
     rw [Bool.eq_iff_iff];simp
    ·rw [if_neg e7] at hr
     simp only [↓wR,RA,simprocAttr,TF,h7]
     rw [aw];refine ⟨fun h8=>?_,fun h8=>?_⟩
     ·simp only [↓wR,RA,simprocAttr,TF,h8]
      refine ct (T:=[]) (ar.nil PP) mixed Tryz.func196 rfl (by kernel_rfl) (by kernel_rfl) (by kernel_rfl) (by kernel_rfl) ?_;unfold Tryz.f196
      simp only [↓wR,RA,simprocAttr,TF]
      refine ct (T:=[]) (ar.nil PP) mixed Tryz.func203 rfl (by kernel_rfl) (by kernel_rfl) (by kernel_rfl) (by kernel_rfl) ?_;unfold Tryz.f203
      simp only [↓wR,RA,simprocAttr,TF]
      refine c7 [0,1,7,8] (fun (i:Nat)=>[.vl false 1 (d.texts.map (aj.val false)),.sc (.func (.func 197) #[] #[]),.sc (.int .i64 d.texts.length),.sc (.int .i64 i)]) (fun _=>[some (.row [.sc (.int .i64 s.names),.sc (.int .i64 s.nums),.sc (.int .i64 s.size),.sc (.int .i64 s.texts),.sc (.int .i64 s.raw)] 0 2 198),some (.row [.vl false 1 (d.names.map (au.val false)),.vl false 1 (d.nums.map (cw.val false)),.vl false 1 (d.texts.map (aj.val false)),.vl false 1 (d.raw.map (bu.val false))] 0 2 101)]) (fun i=>i≤d.texts.length∧(d.texts.any fun x=>decide (255<x.size))=((d.texts.drop i).any fun x=>decide (255<x.size))) (fun i=>d.texts.length - i) 0 ⟨Nat.zero_le _,rfl⟩ (by simp only [↓wR,RA,simprocAttr,TF]<;>rfl) (by simp only [↓wR,RA,simprocAttr,TF]<;>rfl) ?_
      rintro k ⟨hk,hK⟩
      simp only [↓wR,RA,simprocAttr,TF]
      rw [aw];refine ⟨fun h9=>?_,fun h9=>?_⟩
      ·obtain ⟨c,hc,hd1,hlt⟩:=dx (decide_eq_true h9)
       rw [hd1,List.any_cons] at hK
       simp only [↓wR,RA,simprocAttr,TF,h9,hc];repeat (simp (disch:=omega) only [ag,bf,bg,be,bb];try simp only [↓wR,RA,simprocAttr,TF,h9,hc])
       refine ct (T:=[]) (ar.nil PP) mixed Tryz.func197 rfl (by kernel_rfl) (by kernel_rfl) (by kernel_rfl) (by kernel_rfl) ?_;unfold Tryz.f197
       simp only [↓wR,RA,simprocAttr,TF]
       rw [aw];refine ⟨fun h10=>?_,fun h10=>?_⟩
       ·simp only [↓wR,RA,simprocAttr,TF,h10]
        rw [hr,hK,decide_eq_true (show 0<d.texts.length by omega),decide_eq_true (show 255<c.size by omega)];rfl
       ·simp only [↓wR,RA,simprocAttr,TF,h10];repeat (simp (disch:=omega) only [ag,bf,bg,be,bb];try simp only [↓wR,RA,simprocAttr,TF,h10])
        refine ⟨k+1,⟨hlt,?_⟩,by omega,by (first|rfl|trivial|omega|((try (simp (disch:=omega) only [ag]));(try (simp only [FB]));first|done|rfl|omega))⟩
        rw [hK,decide_eq_false (show ¬ 255<c.size by omega),Bool.false_or]
      ·rw [fl (decide_eq_false h9),List.any_nil] at hK
       simp only [↓wR,RA,simprocAttr,TF,h9]
       rw [hr,hK,decide_eq_true (show 0<d.texts.length by omega)];rfl
     ·simp only [↓wR,RA,simprocAttr,TF,h8]
      rw [hr,decide_eq_false (show ¬ 0<d.texts.length by omega)];rfl
theorem zn (t:UInt16) : 0≤(db t).size∧(db t).size≤4:=by
 unfold db
 repeat' split
 all_goals simp
noncomputable def Nt (x:Shape × UInt16 × bt × Unit):Option AV:=if (0≤x.1.size∧x.1.size≤4)∧cy x.2.2.1 then some ((r1 bo).E true (sv x.1 x.2.1 x.2.2.1)) else none
set_option maxRecDepth 2000000 in
theorem an0 (x:Shape × UInt16 × bt × Unit) (r:AV) (h:Nt x=some r):bk PP 184 ((aC uh (aC cg (aC aq a0))).E x) r:=by
 by_cases hc:(0≤x.1.size∧x.1.size≤4)∧cy x.2.2.1
 case neg=>simp only [Nt,if_neg hc] at h;cases h
 simp only [Nt,if_pos hc] at h
 cases h
 exact ay (ar.cons (ak aqz) (ar.nil PP)) Tryz.func184 (by kernel_rfl) (by kernel_rfl) (by kernel_rfl) (Nat.le_of_ble_eq_true (by kernel_rfl)) (r1 bo) true (sv x.1 x.2.1 x.2.2.1) (axi x.1 x.2.1 x.2.2.1 hc.1 hc.2)
noncomputable abbrev aA8:Nat × Bool × (List AV→M AV):=(184,true,c8 (aC uh (aC cg (aC aq a0))) Nt)
theorem akf {α:Type} {l:List (List α)} {i:Nat} {c:List α} (h:l[i]? = some c):(l.drop i).flatten=c++(l.drop (i+1)).flatten:=by rw [Ce h];rfl
theorem ayn {α:Type} {l:List (List α)} {c:List α} (h:c ∈ l):c.length≤l.flatten.length:=by
 induction l with
 |nil=>cases h
 |cons a l ih=>
  simp only [List.flatten_cons,List.length_append]
  rcases List.mem_cons.1 h with rfl|h
  ·omega
  ·have:=ih h;omega
theorem aq5 (l:List (List UInt8)) (hl:l.length≤16777216) (hf:l.flatten.length≤134217728):wl PP [] 0 (Tryz.f200.body.getD .skip) (da PP Tryz.f200.results.toList (fun r st=>(r1 (cq bu)).get false st.h r=some l.flatten)) (cj 0 [(cq (cq bu)).val false l]) (bj []):=by
 unfold Tryz.f200
 rw [om]
 simp only [↓wR,RA,simprocAttr,TF]
 refine c7 [0,3,9,10,11] (fun (x:Nat × Nat)=>[.vl false 1 (l.map ((cq bu).val false)),.sc (.int .i64 x.2),.vl false 1 (l.map ((cq bu).val false)),.sc (.int .i64 l.length),.sc (.int .i64 x.1)]) (fun _=>[]) (fun x=>x.1≤l.length∧x.2+(l.drop x.1).flatten.length=l.flatten.length) (fun x=>l.length - x.1) (0,0) ⟨Nat.zero_le _,by simp⟩ (by simp only [↓wR,RA,simprocAttr,TF]<;>rfl) (by simp only [↓wR,RA,simprocAttr,TF]<;>rfl) ?_
 rintro ⟨i,k⟩ ⟨hi,hk⟩
 simp only at hi hk
 simp only [↓wR,RA,simprocAttr,TF]
 rw [aw];refine ⟨fun h=>?_,fun h=>?_⟩
 ·obtain ⟨c,hc,hd1,hlt⟩:=dx (decide_eq_true h)
  rw [akf hc,List.length_append] at hk
  simp only [↓wR,RA,simprocAttr,TF,h,hc];repeat (simp (disch:=omega) only [ag,bf,bg,be,bb];try simp only [↓wR,RA,simprocAttr,TF,h,hc])
  rw [aw];refine ⟨fun h1=>?_,fun h1=>?_⟩
  ·exfalso;omega
  ·simp only [↓wR,RA,simprocAttr,TF,h1];repeat (simp (disch:=omega) only [ag,bf,bg,be,bb];try simp only [↓wR,RA,simprocAttr,TF,h1])
   exact ⟨(i+1,k+c.length),⟨hlt,by show k+c.length+(l.drop (i+1)).flatten.length=_;omega⟩,by simp;omega,by simp⟩
 ·rw [fl (decide_eq_false h)] at hk
  have hk:k=l.flatten.length:=by simpa using hk
  subst hk
  simp only [↓wR,RA,simprocAttr,TF,h]
  refine ct (T:=[]) (ar.nil PP) mixed Tryz.func204 rfl (by kernel_rfl) (by kernel_rfl) (by kernel_rfl) (by kernel_rfl) ?_;unfold Tryz.f204
  simp only [↓wR,RA,simprocAttr,TF]
  rw [aw];refine ⟨fun h1=>?_,fun h1=>?_⟩
  ·exfalso;omega
  simp only [↓wR,RA,simprocAttr,TF,h1];repeat (simp (disch:=omega) only [ag,bf,bg,be,bb];try simp only [↓wR,RA,simprocAttr,TF,h1])
  rw [aw];refine ⟨fun h2=>?_,fun h2=>?_⟩
  ·have hpos : 0<l.flatten.length:=by omega
   simp only [↓wR,RA,simprocAttr,TF,h2,hpos];repeat (simp (disch:=omega) only [ag,bf,bg,be,bb];try simp only [↓wR,RA,simprocAttr,TF,h2,hpos])
   refine c7 [25,26,27,6] (fun (x:Nat × Nat × Nat × List UInt8)=>[.vl false 1 (l.map ((cq bu).val false)),.sc (.int .i64 l.length),.sc (.int .i64 x.1),.sl 0 0 x.2.1 1]) (fun x=>[some (.row (x.2.2.2.map (bu.val false)) 0 x.2.2.1 5)]) (fun x=>x.1≤l.length∧(x.2.1=x.2.2.2.length∨x.2.1=0)∧x.2.2.2.take x.2.1++(l.drop x.1).flatten=l.flatten) (fun x=>l.length - x.1) (0,0,0,List.replicate l.flatten.length 0) ⟨Nat.zero_le _,.inr rfl,rfl⟩ (by simp only [↓wR,RA,simprocAttr,TF]<;>rfl) (by simp only [↓wR,RA,simprocAttr,TF]<;>rfl) ?_
   rintro ⟨k,m,s,r⟩ ⟨hk1,hk0,hk3⟩
   simp only at hk1 hk0 hk3
   have hk2:m≤r.length:=by omega
   simp only [↓wR,RA,simprocAttr,TF]
   rw [aw];refine ⟨fun h3=>?_,fun h3=>?_⟩
   ·obtain ⟨c,hc,hd1,hlt⟩:=dx (decide_eq_true h3)
    rw [akf hc] at hk3
    have hm:m+c.length≤134217728:=by
     have:=congrArg List.length hk3
     simp only [List.length_append,List.length_take] at this
     omega
    simp only [↓wR,RA,simprocAttr,TF,h3,hc,hk2];repeat (simp (disch:=omega) only [ag,bf,bg,be,bb];try simp only [↓wR,RA,simprocAttr,TF,h3,hc,hk2])
    have hl1:(r.take m++c).length=m+c.length:=by simp [Nat.min_eq_left hk2]
    refine ⟨(k+1,m+c.length,n7 (decide (m=r.length)) s,r.take m++c),⟨hlt,.inl hl1.symm,?_⟩,by simp;omega,by simp,by simp⟩
    show (r.take m++c).take (m+c.length)++_=_
    rw [List.take_of_length_le (Nat.le_of_eq hl1),List.append_assoc]
    exact hk3
   ·rw [fl (decide_eq_false h3)] at hk3
    have hmr:m=r.length:=by
     have:=congrArg List.length hk3
     simp only [List.length_append,List.length_take,List.flatten_nil,List.length_nil] at this
     omega
    subst hmr
    have hr:r=l.flatten:=by simpa using hk3
    subst hr
    simp only [↓wR,RA,simprocAttr,TF,h3,hk2];repeat (simp (disch:=omega) only [ag,bf,bg,be,bb];try simp only [↓wR,RA,simprocAttr,TF,h3,hk2])
  ·have hnil:l.flatten=[]:=List.eq_nil_of_length_eq_zero (by omega)
   simp only [↓wR,RA,simprocAttr,TF,h2];repeat (simp (disch:=omega) only [ag,bf,bg,be,bb];try simp only [↓wR,RA,simprocAttr,TF,h2])
   refine c7 [25,26,27,6] (fun (x:Nat)=>[.vl false 1 (l.map ((cq bu).val false)),.sc (.int .i64 l.length),.sc (.int .i64 x),.sc (.slice none 0 0)]) (fun _=>[]) (fun x=>x≤l.length) (fun x=>l.length - x) 0 (Nat.zero_le _) (by simp only [↓wR,RA,simprocAttr,TF]<;>rfl) (by simp only [↓wR,RA,simprocAttr,TF]<;>rfl) ?_
   intro k hk1
   simp only [↓wR,RA,simprocAttr,TF]
   rw [aw];refine ⟨fun h3=>?_,fun h3=>?_⟩
   ·obtain ⟨c,hc,hd1,hlt⟩:=dx (decide_eq_true h3)
    have hc0:c=[]:=List.eq_nil_of_length_eq_zero (by have:=ayn (List.mem_of_getElem? hc);rw [hnil] at this;simpa using this)
    subst hc0
    simp only [↓wR,RA,simprocAttr,TF,h3,hc];repeat (simp (disch:=omega) only [ag,bf,bg,be,bb];try simp only [↓wR,RA,simprocAttr,TF,h3,hc])
    refine ⟨k+1,hlt,?_⟩
    first|(refine ⟨by simp;omega,?_⟩;simp)|(simp;omega)
   ·simp only [↓wR,RA,simprocAttr,TF,h3];repeat (simp (disch:=omega) only [ag,bf,bg,be,bb];try simp only [↓wR,RA,simprocAttr,TF,h3])
    rw [hnil]
noncomputable def Bi (x:List (List UInt8) × Unit):Option AV:=if x.1.length≤16777216∧x.1.flatten.length≤134217728 then some ((r1 (cq bu)).E false (x.1.flatten)) else none
set_option maxRecDepth 2000000 in
theorem afb (x:List (List UInt8) × Unit) (r:AV) (h:Bi x=some r):bk PP 200 ((aC (cq (cq bu)) a0).E x) r:=by
 by_cases hc:x.1.length≤16777216∧x.1.flatten.length≤134217728
 case neg=>simp only [Bi,if_neg hc] at h;cases h
 simp only [Bi,if_pos hc] at h
 cases h
 exact ay (ar.nil PP) Tryz.func200 (by kernel_rfl) (by kernel_rfl) (by kernel_rfl) (Nat.le_of_ble_eq_true (by kernel_rfl)) (r1 (cq bu)) false (x.1.flatten) (aq5 x.1 hc.1 hc.2)
noncomputable abbrev axq:Nat × Bool × (List AV→M AV):=(200,true,c8 (aC (cq (cq bu)) a0) Bi)
theorem aoy (n:Name):(k7 n).length≤ca n:=by
 unfold k7 nameBytes
 split
 ·exact Nat.zero_le _
 ·have:=ur n;rw [List.length_append];simp only [List.length_cons,List.length_nil];omega
noncomputable def A4 (t:UInt16) (n:UInt32):List UInt8:=(A7 n).drop (4 - (db t).size).toNat
def ow (t:UInt16):Nat→List ByteArray→List UInt8
 |_,[]=>[]
 |i,x::r=>(if (t.toNat:Int)=16∨i=0 then [UInt8.ofNat x.size] else [])++x.data.toList++ow t (i+1) r
noncomputable def vo (t:UInt16) (d:bt):List UInt8:=d.nums.flatMap (A4 t)
def sf (d:bt):List UInt8:=d.names.flatMap k7
def qp (t:UInt16) (d:bt):List UInt8:=ow t 0 d.texts
noncomputable def mj (t:UInt16) (d:bt):List UInt8:=if (t.toNat:Int)=6 then sf d++vo t d else vo t d++(sf d++(qp t d++d.raw))
theorem Gk (n):(A7 n).length=4:=rfl
theorem aht {α:Type} (f : α→List UInt8) (μ : α→Nat) (h:∀ x,(f x).length ≤ μ x) (l:List α):(l.flatMap f).length≤gj μ l:=by
 induction l with
 |nil=>simp
 |cons a l ih=>have:=h a;simp only [List.flatMap_cons,List.length_append,gj,List.foldr_cons] at ih ⊢;omega
theorem an9 (t:UInt16) (l:List ByteArray):∀ i,(ow t i l).length≤gj ByteArray.size l:=by
 induction l with
 |nil=>intro i;simp [ow]
 |cons a l ih=>
  intro i
  have:=ih (i+1)
  have ha:a.data.size=a.size:=rfl
  simp only [ow,List.length_append,gj,List.foldr_cons,Array.length_toList] at this ⊢
  split<;>simp<;>omega
theorem asa (t d):(vo t d).length≤4 * d.nums.length:=by
 unfold vo
 induction d.nums with
 |nil=>simp
 |cons a l ih=>
  have:(A4 t a).length≤4:=by unfold A4;rw [List.length_drop,Gk];omega
  simp only [List.flatMap_cons,List.length_append,List.length_cons];omega
theorem cy.written {d:bt} (h:cy d) (t):(vo t d).length≤67108864∧(sf d).length≤16777216∧(qp t d).length≤16777216:=by
 have h1:=asa t d
 have h2:(sf d).length≤gj ca d.names:=aht k7 ca aoy d.names
 have h3:(qp t d).length≤gj ByteArray.size d.texts:=an9 t d.texts 0
 unfold cy Ba at h
 omega
theorem Au {α:Type} {l:List α} {i:Nat} {c : α} (f : α→List UInt8) (h:l.drop i=c::l.drop (i+1)):(l.drop i).flatMap f=f c++(l.drop (i+1)).flatMap f:=by rw [h];rfl
theorem Tt (c):(A7 c).take 4=A7 c:=rfl
theorem On (t) (c):(A7 c).drop (4 - (db t).size).toNat=A4 t c:=rfl
theorem Yw (t:UInt16) {l:List ByteArray} {i:Nat} {c:ByteArray} (h:l.drop i=c::l.drop (i+1)):ow t i (l.drop i)=(if (t.toNat:Int)=16∨i=0 then [UInt8.ofNat c.size] else [])++c.data.toList++ow t (i+1) (l.drop (i+1)):=by rw [h];rfl
theorem avm (t:UInt16) (d:bt) (hd:cy d):wl PP [W8,az0,ams,axq] 0 (Tryz.f185.body.getD .skip) (da PP Tryz.f185.results.toList (fun r st=>(r1 (cq bu)).get false st.h r=some (mj t d))) (cj 0 [cg.val false t,aq.val false d]) (bj []):=by
 have hl:=hd.lens
 have hk:=hd.written t
 have hs:=zn t
 unfold Tryz.f185
 simp only [gw,cr]
 simp only [↓wR,RA,simprocAttr,TF,Fg,E5]
 refine fj [0,3,6,7,8,21,22,23,5] (fun (x:Nat × List UInt8)=>[.sc (.int .u16 t.toNat),.ptr 0 0,.sc (.slice none 0 0),.sc (.slice none 0 0),.ptr 1 0,.vl false 1 (d.nums.map (cw.val false)),.sc (.int .i64 (d.nums.length)),.sc (.int .i64 (x.1)),.sl 2 0 x.2.length 1]) (fun x=>[some (.row [.vl false 1 (d.names.map (au.val false)),.vl false 1 (d.nums.map (cw.val false)),.vl false 1 (d.texts.map (aj.val false)),.vl false 1 (d.raw.map (bu.val false))] 0 2 101),some (.row [.sc (.int .i64 (db t).names),.sc (.int .i64 (db t).nums),.sc (.int .i64 (db t).size),.sc (.int .i64 (db t).texts),.sc (.int .i64 (db t).raw)] 0 2 198),some (.row (x.2.map (bu.val false)) 0 0 5)]) (fun x=>x.1≤d.nums.length∧x.2++(d.nums.drop x.1).flatMap (A4 t)=vo t d) (fun x=>d.nums.length - x.1) (0,[]) ⟨Nat.zero_le _,rfl⟩ (by simp only [↓wR,RA,simprocAttr,TF];(refine ji.lax [] (by first|exact Nat.le_of_ble_eq_true rfl|(simp [dk];omega)) ?_ ?_<;>repeat' first|exact ef.nil|exact b9.nil|exact fe.same _|exact fe.nil _ _ _|exact fe.lu _ _|exact b9.refl _ _|apply ef.cons|apply b9.ghost|apply b9.same|apply b9.row)) ?_
 rintro ⟨i,x⟩ ⟨hi,hx⟩
 simp only at hi hx
 simp only [↓wR,RA,simprocAttr,TF]
 rw [aw];refine ⟨fun h=>?_,fun h=>?_⟩
 ·obtain ⟨c,hc,hd1,hlt⟩:=dx (decide_eq_true h)
  rw [Au _ hd1] at hx
  have hxl:x.length+(A4 t c).length≤(vo t d).length:=by rw [← hx];simp
  simp only [↓wR,RA,simprocAttr,TF,h,hc,Oz,Gk,Tt,On];repeat (simp (disch:=omega) only [ag,bf,bg,be,bb];try simp only [↓wR,RA,simprocAttr,TF,h,hc,Oz,Gk,Tt,On])
  exact ⟨(i+1,x++A4 t c),⟨hlt,by rw [List.append_assoc];exact hx⟩,by simp;omega,by (first|rfl|trivial|omega|((try (simp (disch:=omega) only [ag]));(try (simp only [FB]));first|done|rfl|omega)),by (first|rfl|trivial|omega|((try (simp (disch:=omega) only [ag]));(try (simp only [FB]));first|done|rfl|omega))⟩
 rw [fl (decide_eq_false h)] at hx
 obtain rfl:x=vo t d:=by simpa using hx
 clear hx
 simp only [↓wR,RA,simprocAttr,TF,h]
 obtain ⟨nu,hnu⟩:∃ nu,vo t d=nu:=⟨_,rfl⟩
 rw [hnu] at hk ⊢
 refine fj [0,3,7,38,39,40,5,6] (fun (x:Nat × List UInt8)=>[.sc (.int .u16 t.toNat),.ptr 0 0,.sc (.slice none 0 0),.vl false 1 (d.names.map (au.val false)),.sc (.int .i64 (d.names.length)),.sc (.int .i64 (x.1)),.sl 1 0 nu.length 1,.sl 2 0 x.2.length 1]) (fun x=>[some (.row [.vl false 1 (d.names.map (au.val false)),.vl false 1 (d.nums.map (cw.val false)),.vl false 1 (d.texts.map (aj.val false)),.vl false 1 (d.raw.map (bu.val false))] 0 2 101),some (.row (nu.map (bu.val false)) 0 0 5),some (.row (x.2.map (bu.val false)) 0 0 5)]) (fun x=>x.1≤d.names.length∧x.2++(d.names.drop x.1).flatMap k7=sf d) (fun x=>d.names.length - x.1) (0,[]) ⟨Nat.zero_le _,rfl⟩ (by simp only [↓wR,RA,simprocAttr,TF];(refine ji.lax [] (by first|exact Nat.le_of_ble_eq_true rfl|(simp [dk];omega)) ?_ ?_<;>repeat' first|exact ef.nil|exact b9.nil|exact fe.same _|exact fe.nil _ _ _|exact fe.lu _ _|exact b9.refl _ _|apply ef.cons|apply b9.ghost|apply b9.same|apply b9.row)) ?_
 clear h
 rintro ⟨i,x⟩ ⟨hi,hx⟩
 simp only at hi hx
 simp only [↓wR,RA,simprocAttr,TF]
 rw [aw];refine ⟨fun h=>?_,fun h=>?_⟩
 ·obtain ⟨c,hc,hd1,hlt⟩:=dx (decide_eq_true h)
  rw [Au _ hd1] at hx
  have hxl:x.length+(k7 c).length≤(sf d).length:=by rw [← hx];simp
  simp only [↓wR,RA,simprocAttr,TF,h,hc,vh,hd.name c (List.mem_of_getElem? hc)];repeat (simp (disch:=omega) only [ag,bf,bg,be,bb];try simp only [↓wR,RA,simprocAttr,TF,h,hc,vh,hd.name c (List.mem_of_getElem? hc)])
  exact ⟨(i+1,x++k7 c),⟨hlt,by rw [List.append_assoc];exact hx⟩,by simp;omega,by (first|rfl|trivial|omega|((try (simp (disch:=omega) only [ag]));(try (simp only [FB]));first|done|rfl|omega)),by (first|rfl|trivial|omega|((try (simp (disch:=omega) only [ag]));(try (simp only [FB]));first|done|rfl|omega))⟩
 rw [fl (decide_eq_false h)] at hx
 obtain rfl:x=sf d:=by simpa using hx
 clear hx
 simp only [↓wR,RA,simprocAttr,TF,h]
 obtain ⟨na,hna⟩:∃ na,sf d=na:=⟨_,rfl⟩
 rw [hna] at hk ⊢
 refine fj [0,3,54,55,56,5,6,7] (fun (x:Nat × List UInt8)=>[.sc (.int .u16 t.toNat),.ptr 0 0,.vl false 1 (d.texts.map (aj.val false)),.sc (.int .i64 (d.texts.length)),.sc (.int .i64 (x.1)),.sl 1 0 nu.length 1,.sl 2 0 na.length 1,.sl 3 0 x.2.length 1]) (fun x=>[some (.row [.vl false 1 (d.names.map (au.val false)),.vl false 1 (d.nums.map (cw.val false)),.vl false 1 (d.texts.map (aj.val false)),.vl false 1 (d.raw.map (bu.val false))] 0 2 101),some (.row (nu.map (bu.val false)) 0 0 5),some (.row (na.map (bu.val false)) 0 0 5),some (.row (x.2.map (bu.val false)) 0 0 5)]) (fun x=>x.1≤d.texts.length∧x.2++ow t x.1 (d.texts.drop x.1)=qp t d) (fun x=>d.texts.length - x.1) (0,[]) ⟨Nat.zero_le _,rfl⟩ (by simp only [↓wR,RA,simprocAttr,TF];(refine ji.lax [] (by first|exact Nat.le_of_ble_eq_true rfl|(simp [dk];omega)) ?_ ?_<;>repeat' first|exact ef.nil|exact b9.nil|exact fe.same _|exact fe.nil _ _ _|exact fe.lu _ _|exact b9.refl _ _|apply ef.cons|apply b9.ghost|apply b9.same|apply b9.row)) ?_
 clear h
 rintro ⟨i,x⟩ ⟨hi,hx⟩
 simp only at hi hx
 simp only [↓wR,RA,simprocAttr,TF]
 rw [aw];refine ⟨fun h=>?_,fun h=>?_⟩
 ·obtain ⟨c,hc,hd1,hlt⟩:=dx (decide_eq_true h)
  rw [Yw _ hd1] at hx
  have hxl:x.length+((if (t.toNat:Int)=16∨i=0 then [UInt8.ofNat c.size] else []).length+c.size)≤(qp t d).length:=by rw [← hx];simp
  have hcs:c.data.toList.length=c.size:=by simp
  simp only [↓wR,RA,simprocAttr,TF,h,hc];repeat (simp (disch:=omega) only [ag,bf,bg,be,bb];try simp only [↓wR,RA,simprocAttr,TF,h,hc])
  have fin:∀ b:List UInt8,x++(b++c.data.toList++ow t (i+1) (d.texts.drop (i+1)))=qp t d→x++b++c.data.toList++ow t (i+1) (d.texts.drop (i+1))=qp t d:=fun b hb=>by rw [← hb];simp
  rw [cp];refine ⟨fun ⟨h16,e16⟩=>?_,fun ⟨h16,e16⟩=>?_⟩
  ·rw [if_pos (.inl e16)] at hx hxl
   simp only [List.length_cons,List.length_nil] at hxl
   simp only [↓wR,RA,simprocAttr,TF,h16];repeat (simp (disch:=omega) only [ag,bf,bg,be,bb];try simp only [↓wR,RA,simprocAttr,TF,h16])
   exact ⟨(i+1,x++[UInt8.ofNat c.size]++c.data.toList),⟨hlt,fin _ hx⟩,by simp;omega,by (first|rfl|trivial|omega|((try (simp (disch:=omega) only [ag]));(try (simp only [FB]));first|done|rfl|omega)),by (first|rfl|trivial|omega|((try (simp (disch:=omega) only [ag]));(try (simp only [FB]));first|done|rfl|omega))⟩
  ·simp only [↓wR,RA,simprocAttr,TF,h16];repeat (simp (disch:=omega) only [ag,bf,bg,be,bb];try simp only [↓wR,RA,simprocAttr,TF,h16])
   rw [cp];refine ⟨fun ⟨h0,e0⟩=>?_,fun ⟨h0,e0⟩=>?_⟩
   ·rw [if_pos (.inr (by omega))] at hx hxl
    simp only [List.length_cons,List.length_nil] at hxl
    simp only [↓wR,RA,simprocAttr,TF,h0];repeat (simp (disch:=omega) only [ag,bf,bg,be,bb];try simp only [↓wR,RA,simprocAttr,TF,h0])
    exact ⟨(i+1,x++[UInt8.ofNat c.size]++c.data.toList),⟨hlt,fin _ hx⟩,by simp;omega,by (first|rfl|trivial|omega|((try (simp (disch:=omega) only [ag]));(try (simp only [FB]));first|done|rfl|omega)),by (first|rfl|trivial|omega|((try (simp (disch:=omega) only [ag]));(try (simp only [FB]));first|done|rfl|omega))⟩
   ·rw [if_neg (by omega)] at hx hxl
    simp only [List.length_nil] at hxl
    simp only [↓wR,RA,simprocAttr,TF,h0];repeat (simp (disch:=omega) only [ag,bf,bg,be,bb];try simp only [↓wR,RA,simprocAttr,TF,h0])
    exact ⟨(i+1,x++c.data.toList),⟨hlt,by have:=fin _ hx;simpa using this⟩,by simp;omega,by (first|rfl|trivial|omega|((try (simp (disch:=omega) only [ag]));(try (simp only [FB]));first|done|rfl|omega)),by (first|rfl|trivial|omega|((try (simp (disch:=omega) only [ag]));(try (simp only [FB]));first|done|rfl|omega))⟩
 rw [fl (decide_eq_false h)] at hx
 obtain rfl:x=qp t d:=by simpa [ow] using hx
 clear hx
 simp only [↓wR,RA,simprocAttr,TF,h];repeat (simp (disch:=omega) only [ag,bf,bg,be,bb];try simp only [↓wR,RA,simprocAttr,TF,h])
 unfold mj
 rw [hnu,hna]
 rw [cp];refine ⟨fun ⟨h6,e6⟩=>?_,fun ⟨h6,e6⟩=>?_⟩
 ·rw [if_pos e6]
  simp only [↓wR,RA,simprocAttr,TF,h6];repeat (simp (disch:=omega) only [ag,bf,bg,be,bb];try simp only [↓wR,RA,simprocAttr,TF,h6])
 ·rw [if_neg e6]
  have hcat:nu.length+(na.length+((qp t d).length+d.raw.length))≤134217728:=by omega
  simp only [↓wR,RA,simprocAttr,TF,h6,Bi,hcat];repeat (simp (disch:=omega) only [ag,bf,bg,be,bb];try simp only [↓wR,RA,simprocAttr,TF,h6,Bi,hcat])
  rw [← List.map_append,← List.map_append,← List.map_append]
  exact u5 bu false _ false _ _ rfl rfl
noncomputable def u6 (x:UInt16 × bt × Unit):Option AV:=if cy x.2.1 then some ((r1 (cq bu)).E false (mj x.1 x.2.1)) else none
set_option maxRecDepth 2000000 in
theorem G1 (x:UInt16 × bt × Unit) (r:AV) (h:u6 x=some r):bk PP 185 ((aC cg (aC aq a0)).E x) r:=by
 by_cases hc:cy x.2.1
 case neg=>simp only [u6,if_neg hc] at h;cases h
 simp only [u6,if_pos hc] at h
 cases h
 exact ay (ar.cons (ak E6) (ar.cons (ak aiv) (ar.cons (ak Vg) (ar.cons (ak afb) (ar.nil PP))))) Tryz.func185 (by kernel_rfl) (by kernel_rfl) (by kernel_rfl) (Nat.le_of_ble_eq_true (by kernel_rfl)) (r1 (cq bu)) false (mj x.1 x.2.1) (avm x.1 x.2.1 hc)
noncomputable abbrev Vh:Nat × Bool × (List AV→M AV):=(185,true,c8 (aC cg (aC aq a0)) u6)
theorem ait (d:bt) (hd:cy d):wl PP [ad7,ack,ak8,Be] 0 (Tryz.f107.body.getD .skip) (da PP Tryz.f107.results.toList (fun r st=>(r1 aq).get true st.h r=some d)) (cj 0 [aq.val false d]) (bj []):=by
 have hl:=hd.lens
 have l2:=hl.2.1
 have l3:=hl.2.2.1
 have l4:=hl.2.2.2
 unfold Tryz.f107
 simp only [gw,cr]
 simp only [↓wR,RA,simprocAttr,TF]
 refine ⟨by kernel_rfl,.inl ?_⟩
 simp only [↓wR,RA,simprocAttr,TF,zf,zh,Ci,l2,l3,l4]
 refine ⟨by kernel_rfl,?_⟩
 refine fj [2,17,18,19,3] (fun (x:List Name)=>[.ptr 0 0,.vl false 1 (d.names.map (au.val false)),.sc (.int .i64 (d.names.length)),.sc (.int .i64 (x.length)),.ptr 1 0]) (fun x=>[some (.row [.sc (.slice none 0 0),.sc (.slice none 0 0),.sc (.slice none 0 0),.sc (.slice none 0 0)] 0 2 101),some (.row [.sl 2 0 x.length 1,.vl true 1 (d.nums.map (cw.val false)),.vl true 1 (d.texts.map (aj.val false)),.vl true 1 (d.raw.map (bu.val false))] 0 2 101),some (.row (x.map (au.val true)) 0 0 24)]) (fun x=>x.length≤d.names.length∧x++d.names.drop x.length=d.names) (fun x=>d.names.length - x.length) [] ⟨Nat.zero_le _,rfl⟩ (by simp only [↓wR,RA,simprocAttr,TF];(refine ji.lax [] (by first|exact Nat.le_of_ble_eq_true rfl|(simp [dk];omega)) ?_ ?_<;>repeat' first|exact ef.nil|exact b9.nil|exact fe.same _|exact fe.nil _ _ _|exact fe.lu _ _|exact b9.refl _ _|apply ef.cons|apply b9.ghost|apply b9.same|apply b9.row)) ?_
 rintro x ⟨hi,hx⟩
 simp only [↓wR,RA,simprocAttr,TF]
 rw [aw];refine ⟨fun h=>?_,fun h=>?_⟩
 ·obtain ⟨c,hc,hd1,hlt⟩:=dx (decide_eq_true h)
  rw [hd1] at hx
  have hlim:(x.length+1) * 24≤140737488355328:=by omega
  simp only [↓wR,RA,simprocAttr,TF,h,hc]
  refine ⟨by kernel_rfl,.inl ?_⟩
  simp only [↓wR,RA,simprocAttr,TF,qn,hd.name c (List.mem_of_getElem? hc),hlim]
  refine ⟨by kernel_rfl,?_⟩
  exact ⟨x++[c],⟨by simp;omega,by simpa using hx⟩,by simp;omega,by (first|rfl|trivial|omega|((try (simp (disch:=omega) only [ag]));(try (simp only [FB]));first|done|rfl|omega)),by (first|rfl|trivial|omega|((try (simp (disch:=omega) only [ag]));(try (simp only [FB]));first|done|rfl|omega))⟩
 ·rw [fl (decide_eq_false h)] at hx
  rw [List.append_nil] at hx
  subst hx
  simp only [↓wR,RA,simprocAttr,TF,h]
noncomputable def zc (x:bt × Unit):Option AV:=if cy x.1 then some ((r1 aq).E true (x.1)) else none
set_option maxRecDepth 2000000 in
theorem Lb (x:bt × Unit) (r:AV) (h:zc x=some r):bk PP 107 ((aC aq a0).E x) r:=by
 by_cases hc:cy x.1
 case neg=>simp only [zc,if_neg hc] at h;cases h
 simp only [zc,if_pos hc] at h
 cases h
 exact ay (ar.cons (ak K8) (ar.cons (ak La) (ar.cons (ak Mu) (ar.cons (ak ri) (ar.nil PP))))) Tryz.func107 (by kernel_rfl) (by kernel_rfl) (by kernel_rfl) (Nat.le_of_ble_eq_true (by kernel_rfl)) (r1 aq) true (x.1) (ait x.1 hc)
noncomputable abbrev afo:Nat × Bool × (List AV→M AV):=(107,true,c8 (aC aq a0) zc)
def qx {α:Type} (f : α → α) (l:List α) (i:Nat):List α:=(l.take i).map f++l.drop i
theorem aom {α:Type} (f : α → α) (l:List α) (i:Nat):(qx f l i).length=l.length:=by simp [qx];omega
theorem alm {α:Type} (f : α → α) {l:List α} {i:Nat} {c : α} (h:l[i]? = some c):(qx f l i)[i]? = some c:=by
 obtain ⟨hi,rfl⟩:=List.getElem?_eq_some_iff.1 h
 have hl:((l.take i).map f).length=i:=by simp;omega
 rw [qx,List.getElem?_append_right (by omega),hl,Nat.sub_self,List.getElem?_drop];simp [h]
theorem alg {α:Type} (f : α → α) {l:List α} {i:Nat} {c : α} (h:l[i]? = some c):(qx f l i).take i++[f c]++(qx f l i).drop (i+1)=qx f l (i+1):=by
 obtain ⟨hi,rfl⟩:=List.getElem?_eq_some_iff.1 h
 have h1:((l.take i).map f).length=i:=by simp;omega
 have h2:(qx f l i).take i=(l.take i).map f:=by rw [qx,List.take_append_of_le_length (by omega),List.take_of_length_le (by omega)]
 have h3:(qx f l i).drop (i+1)=l.drop (i+1):=by
  rw [qx,List.drop_append,List.drop_eq_nil_of_le (by omega),h1]
  simp
 rw [h2,h3,qx,List.take_succ_eq_append_getElem hi,List.map_append]
 rfl
theorem amc {α:Type} (f : α → α) (l:List α):qx f l l.length=l.map f:=by simp [qx]
noncomputable def jg (t:UInt16) (d:bt):bt:=if 0<(db t).names then { d with names:=d.names.map fm } else d
theorem aio (t:UInt16) (d:bt) (hd:cy d):wl PP [W8,avb] 0 (Tryz.f162.body.getD .skip) (da PP Tryz.f162.results.toList (fun r st=>(r1 aq).get true st.h r=some (jg t d))) (cj 0 [cg.val false t,aq.val false d]) (bj []):=by
 have hl:=hd.lens
 have l2:=hl.2.1
 have l3:=hl.2.2.1
 have l4:=hl.2.2.2
 unfold Tryz.f162
 simp only [gw,cr]
 simp only [↓wR,RA,simprocAttr,TF]
 refine ct (T:=[ad7,ack,ak8,Be]) (ar.cons (ak K8) (ar.cons (ak La) (ar.cons (ak Mu) (ar.cons (ak ri) (ar.nil PP))))) mixed Tryz.func107 rfl (by kernel_rfl) (by kernel_rfl) (by kernel_rfl) (by kernel_rfl) ?_;unfold Tryz.f107
 simp only [↓wR,RA,simprocAttr,TF]
 refine ⟨by kernel_rfl,.inl ?_⟩
 simp only [↓wR,RA,simprocAttr,TF,zf,zh,Ci,l2,l3,l4]
 refine ⟨by kernel_rfl,?_⟩
 refine fj [2,17,18,19,3] (fun (x:List Name)=>[.ptr 2 0,.vl false 1 (d.names.map (au.val false)),.sc (.int .i64 (d.names.length)),.sc (.int .i64 (x.length)),.ptr 3 0]) (fun x=>[some (.row [.vl false 1 (d.names.map (au.val false)),.vl false 1 (d.nums.map (cw.val false)),.vl false 1 (d.texts.map (aj.val false)),.vl false 1 (d.raw.map (bu.val false))] 0 2 101),some (.row [.sc (.slice none 0 0),.sc (.slice none 0 0),.sc (.slice none 0 0),.sc (.slice none 0 0)] 0 2 101),some (.row [.sc (.slice none 0 0),.sc (.slice none 0 0),.sc (.slice none 0 0),.sc (.slice none 0 0)] 0 2 101),some (.row [.sl 4 0 x.length 1,.vl true 1 (d.nums.map (cw.val false)),.vl true 1 (d.texts.map (aj.val false)),.vl true 1 (d.raw.map (bu.val false))] 0 2 101),some (.row (x.map (au.val true)) 0 0 24)]) (fun x=>x.length≤d.names.length∧x++d.names.drop x.length=d.names) (fun x=>d.names.length - x.length) [] ⟨Nat.zero_le _,rfl⟩ (by simp only [↓wR,RA,simprocAttr,TF];(refine ji.lax [] (by first|exact Nat.le_of_ble_eq_true rfl|(simp [dk];omega)) ?_ ?_<;>repeat' first|exact ef.nil|exact b9.nil|exact fe.same _|exact fe.nil _ _ _|exact fe.lu _ _|exact b9.refl _ _|apply ef.cons|apply b9.ghost|apply b9.same|apply b9.row)) ?_
 rintro x ⟨hi,hx⟩
 simp only [↓wR,RA,simprocAttr,TF]
 rw [aw];refine ⟨fun h=>?_,fun h=>?_⟩
 ·obtain ⟨c,hc,hd1,hlt⟩:=dx (decide_eq_true h)
  rw [hd1] at hx
  have hlim:(x.length+1) * 24≤140737488355328:=by omega
  simp only [↓wR,RA,simprocAttr,TF,h,hc]
  refine ⟨by kernel_rfl,.inl ?_⟩
  simp only [↓wR,RA,simprocAttr,TF,qn,hd.name c (List.mem_of_getElem? hc),hlim]
  refine ⟨by kernel_rfl,?_⟩
  exact ⟨x++[c],⟨by simp;omega,by simpa using hx⟩,by simp;omega,by (first|rfl|trivial|omega|((try (simp (disch:=omega) only [ag]));(try (simp only [FB]));first|done|rfl|omega)),by (first|rfl|trivial|omega|((try (simp (disch:=omega) only [ag]));(try (simp only [FB]));first|done|rfl|omega))⟩
 rw [fl (decide_eq_false h)] at hx
 rw [List.append_nil] at hx
 subst hx
 simp only [↓wR,RA,simprocAttr,TF,h,Fg,E5]
 unfold jg
 clear hi h
 rw [aw];refine ⟨fun h0=>?_,fun h0=>?_⟩
 ·rw [if_pos h0]
  simp only [↓wR,RA,simprocAttr,TF,h0]
  refine c7 [4,5,15,16,17] (fun (i:Nat)=>[.ptr 0 0,.ptr 1 0,.sl 2 0 d.names.length 1,.sc (.int .i64 (d.names.length)),.sc (.int .i64 (i))]) (fun i=>[some (.row [.sc (.slice none 0 0),.sc (.slice none 0 0),.sc (.slice none 0 0),.sc (.slice none 0 0)] 0 2 101),some (.row [.sl 2 0 d.names.length 1,.vl true 1 (d.nums.map (cw.val false)),.vl true 1 (d.texts.map (aj.val false)),.vl true 1 (d.raw.map (bu.val false))] 0 2 101),some (.row ((qx fm d.names i).map (au.val true)) 0 0 24)]) (fun i=>i≤d.names.length) (fun i=>d.names.length - i) 0 (Nat.zero_le _) (by simp only [↓wR,RA,simprocAttr,TF]<;>rfl) (by simp only [↓wR,RA,simprocAttr,TF]<;>rfl) ?_
  intro i hi
  simp only [↓wR,RA,simprocAttr,TF]
  rw [aw];refine ⟨fun h=>?_,fun h=>?_⟩
  ·obtain ⟨c,hc,hd1,hlt⟩:=dx (decide_eq_true h)
   have hs:=alm fm hc
   have hlen:=aom fm d.names i
   have hlt':i+1≤d.names.length:=hlt
   simp only [↓wR,RA,simprocAttr,TF,h,hs,hlt]
   refine ⟨by kernel_rfl,.inl ?_⟩
   simp only [↓wR,RA,simprocAttr,TF,h,hlt,hlt',hlen,Di,hd.name c (List.mem_of_getElem? hc)]
   refine ⟨by kernel_rfl,i+1,hlt,by omega,by (first|rfl|trivial|omega|((try (simp (disch:=omega) only [ag]));(try (simp only [FB]));first|done|rfl|omega)),?_⟩
   rw [← alg fm hc];simp only [List.map_append,List.map_cons,List.map_nil]
  ·have hin:i=d.names.length:=by omega
   subst hin
   rw [amc]
   have hml:(d.names.map fm).length=d.names.length:=List.length_map _
   generalize d.names.map fm=m at hml ⊢
   simp only [↓wR,RA,simprocAttr,TF,h,hml]
   rfl
 ·rw [if_neg h0]
  simp only [↓wR,RA,simprocAttr,TF,h0]
noncomputable def Dg (x:UInt16 × bt × Unit):Option AV:=if cy x.2.1 then some ((r1 aq).E true (jg x.1 x.2.1)) else none
set_option maxRecDepth 2000000 in
theorem aan (x:UInt16 × bt × Unit) (r:AV) (h:Dg x=some r):bk PP 162 ((aC cg (aC aq a0)).E x) r:=by
 by_cases hc:cy x.2.1
 case neg=>simp only [Dg,if_neg hc] at h;cases h
 simp only [Dg,if_pos hc] at h
 cases h
 exact ay (ar.cons (ak E6) (ar.cons (ak aag) (ar.nil PP))) Tryz.func162 (by kernel_rfl) (by kernel_rfl) (by kernel_rfl) (Nat.le_of_ble_eq_true (by kernel_rfl)) (r1 aq) true (jg x.1 x.2.1) (aio x.1 x.2.1 hc)
noncomputable abbrev att:Nat × Bool × (List AV→M AV):=(162,true,c8 (aC cg (aC aq a0)) Dg)
def k6:List Name→Int
 | []=>0
 |n::r=>if du n≠0 then du n else k6 r
noncomputable def dw (t:UInt16) (d:bt):Int:=
 if mn t=true then 6 else if sv (db t) t d=false then 7 else if k6 d.names≠0 then k6 d.names else if 65535<(mj t d).length then 3 else 0
theorem Pv {l:List Name} {i:Nat} {c:Name} (h:l.drop i=c::l.drop (i+1)):k6 (l.drop i)=if du c≠0 then du c else k6 (l.drop (i+1)):=by rw [h];rfl
theorem aep (t:UInt16) (d:bt) (hd:cy d):wl PP [azl,W8,aA8,ft,Vh] 0 (Tryz.f158.body.getD .skip) (da PP Tryz.f158.results.toList (fun r st=>(r1 (bh .i64)).get true st.h r=some (dw t d))) (cj 0 [cg.val false t,aq.val false d]) (bj []):=by
 have hs:=zn t
 have hl:=hd.lens
 unfold Tryz.f158
 simp only [gw,cr]
 simp only [↓wR,RA,simprocAttr,TF,W2]
 unfold dw
 rw [di];refine ⟨fun hb=>?_,fun hb=>?_⟩
 ·rw [if_pos hb]
  simp only [↓wR,RA,simprocAttr,TF,hb]
 rw [if_neg (by rw [hb];decide)]
 simp only [↓wR,RA,simprocAttr,TF,hb]
 refine ⟨by kernel_rfl,.inl ?_⟩
 simp only [↓wR,RA,simprocAttr,TF,Fg,Nt,hs,hd]
 refine ⟨by kernel_rfl,?_⟩
 rw [di];refine ⟨fun hf=>?_,fun hf=>?_⟩
 ·rw [if_pos (by simpa using hf)]
  simp only [↓wR,RA,simprocAttr,TF,hf]
 have hf':sv (db t) t d=true:=by simpa using hf
 rw [if_neg (by rw [hf'];decide)]
 simp only [↓wR,RA,simprocAttr,TF,hf]
 refine c7 [0,3,17,18,19] (fun (i:Nat)=>[.sc (.int .u16 t.toNat),.ptr 0 0,.vl false 1 (d.names.map (au.val false)),.sc (.int .i64 (d.names.length)),.sc (.int .i64 (i))]) (fun _=>[some (.row [.vl false 1 (d.names.map (au.val false)),.vl false 1 (d.nums.map (cw.val false)),.vl false 1 (d.texts.map (aj.val false)),.vl false 1 (d.raw.map (bu.val false))] 0 2 101)]) (fun i=>i≤d.names.length∧k6 d.names=k6 (d.names.drop i)) (fun i=>d.names.length - i) 0 ⟨Nat.zero_le _,rfl⟩ (by simp only [↓wR,RA,simprocAttr,TF]<;>rfl) (by simp only [↓wR,RA,simprocAttr,TF]<;>rfl) ?_
 rintro i ⟨hi,hx⟩
 simp only [↓wR,RA,simprocAttr,TF]
 rw [aw];refine ⟨fun h=>?_,fun h=>?_⟩
 ·obtain ⟨c,hc,hd1,hlt⟩:=dx (decide_eq_true h)
  rw [Pv hd1] at hx
  simp only [↓wR,RA,simprocAttr,TF,h,hc,sd,(hd.name c (List.mem_of_getElem? hc)).fit]
  rw [di];refine ⟨fun h1=>?_,fun h1=>?_⟩
  ·have he:du c≠0:=by simpa using h1
   rw [if_pos he] at hx
   rw [if_pos (by rw [hx];exact he),hx]
   simp only [↓wR,RA,simprocAttr,TF,h1]
  ·have he:du c=0:=by simpa using h1
   rw [if_neg (by omega)] at hx
   simp only [↓wR,RA,simprocAttr,TF,h1];repeat (simp (disch:=omega) only [ag,bf,bg,be,bb];try simp only [↓wR,RA,simprocAttr,TF,h1])
   exact ⟨i+1,⟨hlt,hx⟩,by omega,by (first|rfl|trivial|omega|((try (simp (disch:=omega) only [ag]));(try (simp only [FB]));first|done|rfl|omega))⟩
 rw [fl (decide_eq_false h)] at hx
 rw [if_neg (by rw [hx];decide)]
 simp only [↓wR,RA,simprocAttr,TF,h,u6,hd]
 rw [aw];refine ⟨fun h2=>?_,fun h2=>?_⟩
 ·rw [if_pos (by omega)]
  simp only [↓wR,RA,simprocAttr,TF,h2]
 ·rw [if_neg (by omega)]
  simp only [↓wR,RA,simprocAttr,TF,h2]
noncomputable def qg (x:UInt16 × bt × Unit):Option AV:=if cy x.2.1 then some ((r1 (bh .i64)).E true (dw x.1 x.2.1)) else none
set_option maxRecDepth 2000000 in
theorem wj (x:UInt16 × bt × Unit) (r:AV) (h:qg x=some r):bk PP 158 ((aC cg (aC aq a0)).E x) r:=by
 by_cases hc:cy x.2.1
 case neg=>simp only [qg,if_neg hc] at h;cases h
 simp only [qg,if_pos hc] at h
 cases h
 exact ay (ar.cons (ak ahb) (ar.cons (ak E6) (ar.cons (ak an0) (ar.cons (ak tn) (ar.cons (ak G1) (ar.nil PP)))))) Tryz.func158 (by kernel_rfl) (by kernel_rfl) (by kernel_rfl) (Nat.le_of_ble_eq_true (by kernel_rfl)) (r1 (bh .i64)) true (dw x.1 x.2.1) (aep x.1 x.2.1 hc)
noncomputable abbrev Gx:Nat × Bool × (List AV→M AV):=(158,true,c8 (aC cg (aC aq a0)) qg)
noncomputable def nf (t:UInt16) (d:bt):List UInt8:=if dw t d≠0 then [] else mj t d
theorem aen (t:UInt16) (d:bt) (hd:cy d):wl PP [Gx,Vh] 0 (Tryz.f161.body.getD .skip) (da PP Tryz.f161.results.toList (fun r st=>(r2 (cq bu) (bh .i64)).get false st.h r=some (nf t d,dw t d))) (cj 0 [cg.val false t,aq.val false d]) (bj []):=by
 unfold Tryz.f161
 simp only [gw,cr]
 simp only [↓wR,RA,simprocAttr,TF,qg,hd]
 unfold nf
 rw [di];refine ⟨fun h=>?_,fun h=>?_⟩
 ·have he:dw t d≠0:=by simpa using h
  rw [if_pos he]
  simp only [↓wR,RA,simprocAttr,TF,h]
 ·have he:dw t d=0:=by simpa using h
  rw [if_neg (by omega)]
  simp only [↓wR,RA,simprocAttr,TF,h,u6,hd,he]
noncomputable def An (x:UInt16 × bt × Unit):Option AV:=if cy x.2.1 then some ((r2 (cq bu) (bh .i64)).E false ((nf x.1 x.2.1,dw x.1 x.2.1))) else none
set_option maxRecDepth 2000000 in
theorem Xe (x:UInt16 × bt × Unit) (r:AV) (h:An x=some r):bk PP 161 ((aC cg (aC aq a0)).E x) r:=by
 by_cases hc:cy x.2.1
 case neg=>simp only [An,if_neg hc] at h;cases h
 simp only [An,if_pos hc] at h
 cases h
 exact ay (ar.cons (ak wj) (ar.cons (ak G1) (ar.nil PP))) Tryz.func161 (by kernel_rfl) (by kernel_rfl) (by kernel_rfl) (Nat.le_of_ble_eq_true (by kernel_rfl)) (r2 (cq bu) (bh .i64)) false ((nf x.1 x.2.1,dw x.1 x.2.1)) (aen x.1 x.2.1 hc)
noncomputable abbrev aqo:Nat × Bool × (List AV→M AV):=(161,true,c8 (aC cg (aC aq a0)) An)
theorem arz (args:List AV):Ei PP 187 args (Cx.pw args):=
 Cx.Nm (fn:=(PP.funcs[187]?).getD default) (by kernel_rfl) (by kernel_rfl) (by kernel_rfl) (by kernel_rfl) (by kernel_rfl) args
noncomputable abbrev az7:Nat × Bool × (List AV→M AV):=(187,true,Cx.pw)
theorem axm:ar PP [az7]:=ar.cons arz (ar.nil PP)
noncomputable def J5 (a b:List UInt8):Int:=Lib.compareBytes a b
theorem Tu (a b:List UInt8):wl PP [az7] 0 (Tryz.f163.body.getD .skip) (da PP Tryz.f163.results.toList (fun r st=>(r1 (bh .i64)).get true st.h r=some (J5 a b))) (cj 0 [(cq bu).val false a,(cq bu).val false b]) (bj []):=by
 unfold Tryz.f163
 simp only [om]
 simp only [↓wR,RA,simprocAttr,TF,J5]
noncomputable def xu (x:List UInt8 × List UInt8 × Unit):Option AV:=some ((r1 (bh .i64)).E true (J5 x.1 x.2.1))
theorem Po (x:List UInt8 × List UInt8 × Unit) (r:AV) (h:xu x=some r):bk PP 163 ((aC (cq bu) (aC (cq bu) a0)).E x) r:=by
 cases h
 exact ay axm Tryz.func163 (by kernel_rfl) (by kernel_rfl) (by kernel_rfl) (Nat.le_of_ble_eq_true (by kernel_rfl)) (r1 (bh .i64)) true (J5 x.1 x.2.1) (Tu x.1 x.2.1)
noncomputable abbrev adw:Nat × Bool × (List AV→M AV):=(163,true,c8 (aC (cq bu) (aC (cq bu) a0)) xu)
theorem Gi (s:ByteArray):(fold s).size=s.size:=by
 show (s.data.toList.map low).toArray.size=s.data.size
 simp
theorem Bs (n:Name):ca (fm n)=ca n:=by
 unfold ca fm
 rw [List.foldl_map]
 simp only [Gi]
theorem asz (l:List Name):gj ca (l.map fm)=gj ca l:=by
 induction l with
 |nil=>rfl
 |cons a l ih=>simp only [gj,List.map_cons,List.foldr_cons,Bs] at ih ⊢;rw [ih]
theorem cy.fold {d:bt} (h:cy d) (t:UInt16):cy (jg t d):=by
 unfold jg
 split
 ·unfold cy Ba at *
  simp only [asz];exact h
 ·exact h
noncomputable def vj (t:UInt16) (a b:bt):Int:=if dw t (jg t a)≠0∨dw t (jg t b)≠0 then 0 else J5 (nf t (jg t a)) (nf t (jg t b))
noncomputable def xw (t:UInt16) (a b:bt):Bool:=decide (dw t a=0) && decide (dw t b=0) && decide (vj t a b=0)
theorem Wo (t:UInt16) (a b:bt) (ha:cy a) (hb:cy b):wl PP [att,aqo,adw] 0 (Tryz.f123.body.getD .skip) (da PP Tryz.f123.results.toList (fun r st=>(r1 (bh .i64)).get true st.h r=some (vj t a b))) (cj 0 [cg.val false t,aq.val false a,aq.val false b]) (bj []):=by
 have fa:=ha.fold t
 have fb:=hb.fold t
 unfold Tryz.f123
 simp only [gw,cr]
 simp only [↓wR,RA,simprocAttr,TF,Dg,An,xu,ha,hb,fa,fb]
 unfold vj
 rw [di];refine ⟨fun h=>?_,fun h=>?_⟩
 ·have he:dw t (jg t a)≠0:=by simpa using h
  rw [if_pos (.inl he)]
  simp only [↓wR,RA,simprocAttr,TF,h]
 have he:dw t (jg t a)=0:=by simpa using h
 simp only [↓wR,RA,simprocAttr,TF,h]
 rw [di];refine ⟨fun h2=>?_,fun h2=>?_⟩
 ·have he2:dw t (jg t b)≠0:=by simpa using h2
  rw [if_pos (.inr he2)]
  simp only [↓wR,RA,simprocAttr,TF,h2]
 ·have he2:dw t (jg t b)=0:=by simpa using h2
  rw [if_neg (by omega)]
  simp only [↓wR,RA,simprocAttr,TF,h2,xu]
noncomputable def l8 (x:UInt16 × bt × bt × Unit):Option AV:=if cy x.2.1∧cy x.2.2.1 then some ((r1 (bh .i64)).E true (vj x.1 x.2.1 x.2.2.1)) else none
set_option maxRecDepth 2000000 in
theorem yf (x:UInt16 × bt × bt × Unit) (r:AV) (h:l8 x=some r):bk PP 123 ((aC cg (aC aq (aC aq a0))).E x) r:=by
 by_cases hc:cy x.2.1∧cy x.2.2.1
 case neg=>simp only [l8,if_neg hc] at h;cases h
 simp only [l8,if_pos hc] at h
 cases h
 exact ay (ar.cons (ak aan) (ar.cons (ak Xe) (ar.cons (ak Po) (ar.nil PP)))) Tryz.func123 (by kernel_rfl) (by kernel_rfl) (by kernel_rfl) (Nat.le_of_ble_eq_true (by kernel_rfl)) (r1 (bh .i64)) true (vj x.1 x.2.1 x.2.2.1) (Wo x.1 x.2.1 x.2.2.1 hc.1 hc.2)
noncomputable abbrev Cq:Nat × Bool × (List AV→M AV):=(123,true,c8 (aC cg (aC aq (aC aq a0))) l8)
theorem aip (t:UInt16) (a b:bt) (ha:cy a) (hb:cy b):wl PP [Gx,Cq] 0 (Tryz.f155.body.getD .skip) (da PP Tryz.f155.results.toList (fun r st=>(r1 bo).get true st.h r=some (xw t a b))) (cj 0 [cg.val false t,aq.val false a,aq.val false b]) (bj []):=by
 unfold Tryz.f155
 simp only [gw,cr]
 simp only [↓wR,RA,simprocAttr,TF,qg,ha,hb]
 unfold xw
 rw [cp];refine ⟨fun ⟨h,e⟩=>?_,fun ⟨h,e⟩=>?_⟩
 ·rw [decide_eq_true e]
  simp only [↓wR,RA,simprocAttr,TF,h,qg,ha,hb]
  rw [cp];refine ⟨fun ⟨h2,e2⟩=>?_,fun ⟨h2,e2⟩=>?_⟩
  ·rw [decide_eq_true e2]
   simp only [↓wR,RA,simprocAttr,TF,h2,l8,ha,hb]
   rfl
  ·rw [decide_eq_false e2]
   simp only [↓wR,RA,simprocAttr,TF,h2]
   rfl
 ·rw [decide_eq_false e]
  simp only [↓wR,RA,simprocAttr,TF,h]
  rfl
noncomputable def C5 (x:UInt16 × bt × bt × Unit):Option AV:=if cy x.2.1∧cy x.2.2.1 then some ((r1 bo).E true (xw x.1 x.2.1 x.2.2.1)) else none
set_option maxRecDepth 2000000 in
theorem aaw (x:UInt16 × bt × bt × Unit) (r:AV) (h:C5 x=some r):bk PP 155 ((aC cg (aC aq (aC aq a0))).E x) r:=by
 by_cases hc:cy x.2.1∧cy x.2.2.1
 case neg=>simp only [C5,if_neg hc] at h;cases h
 simp only [C5,if_pos hc] at h
 cases h
 exact ay (ar.cons (ak wj) (ar.cons (ak yf) (ar.nil PP))) Tryz.func155 (by kernel_rfl) (by kernel_rfl) (by kernel_rfl) (Nat.le_of_ble_eq_true (by kernel_rfl)) (r1 bo) true (xw x.1 x.2.1 x.2.2.1) (aip x.1 x.2.1 x.2.2.1 hc.1 hc.2)
noncomputable abbrev avf:Nat × Bool × (List AV→M AV):=(155,true,c8 (aC cg (aC aq (aC aq a0))) C5)
end Go.Proofs.YtgencolcibpcaaaGreat
end
section
set_option maxRecDepth 100000
namespace Go.Vm
variable [TK]
noncomputable section
theorem Om {α:Type} (C:dm α) (fr:Bool) (h:Tr bq) (l:List AV) (ha:C.agg=true):C.dec fr h l=C.jf fr h (.agg l):=by
 rw [Bw _ _ _ _ rfl (by rw [ha];rfl)];rfl
theorem at2 {α β:Type} (A:dm α) (B:dm β) (fr:Bool) (h:Tr bq) (l:List AV):(m4 A B).dec fr h l=match A.dec fr h (l.take A.sz),B.dec fr h (l.drop A.sz) with|some x,some y=>some (x,y)|_,_=>none:=rfl
theorem alv {α:Type} (C:dm α) (fr h) (x:AV):(cq C).dec fr h [x]=jj C fr h x:=rfl
theorem anu (fr h) (x:AV):au.dec fr h [x]=jj aj fr h x:=rfl
theorem anm {P:Program} {T:ff} {l:Nat} {a9:Nat} {L:SL} {st:St} {Q:QI} {ps:List Tmp} {ra rb:Code} {L0:SL} {α:Type} {b:Code} (keep:List Nat) (V : α→List AV) (O : α→List (Option bq)) (I : α→Prop) (μ : α→Nat) (x : α) (hx:I x)
 (hv:ji a9 (dj a9 keep L st) (fp a9 keep L st) (V x) (O x))
 (step:∀ x,I x→px P T l (oe ps (fun p=>wl P T p ra) (fun p=>wl P T p rb) L0) a9 b (Al (wy a9 keep (fun vs os=>∃ y,I y ∧ μ y < μ x∧vs=V y∧os=O y) (fun _ _ _=>False)) Q) none (i4 keep (V x)) (bj (O x))):px P T l (oe ps (fun p=>wl P T p ra) (fun p=>wl P T p rb) L0) a9 (.loop b) Q none L st:=by
 have mono:∀ (Q1 Q2:QL),(∀ e L st,Q1 e L st→Q2 e L st)→∀ L st,px P T l (oe ps (fun p=>wl P T p ra) (fun p=>wl P T p rb) L0) a9 b (Al Q1 Q) none L st→px P T l (oe ps (fun p=>wl P T p ra) (fun p=>wl P T p rb) L0) a9 b (Al Q2 Q) none L st:=fun Q1 Q2 h L st hh=>Sg (Ra P T) b _ _ (fun e pe L st q=>by
  cases e with
  |normal=>exact ⟨q.1,h _ _ _ q.2⟩
  |ret=>exact q
  |exit i=>exact q) none L st hh
 refine ⟨rfl,su.atf (B:=fun Q' L st=>px P T l _ a9 b (Al Q' Q) none L st) keep V O I μ x hx hv mono (fun x hi=>mono _ _ (fun e L' st' hq=>?_) _ _ (step x hi))⟩
 cases e with
 |normal=>
  obtain ⟨y,h1,h2,h3,h4⟩:=hq
  refine ⟨y,h1,h2,?_⟩
  rw [h3,h4];exact .refl _ _ _
 |exit i=>exact hq.elim
 |ret=>exact hq.elim
theorem K6 (k fr h n cells kk st et) (hn:n=cells.length) (hro:A9 fr st 1 (.int k) et=true):kj (bh k) fr h 0 n (.row cells kk st et)=qy (bh k) fr h cells:=wm (bh k) rfl fr h n cells kk st et hn hro
def gk (n:Nat) (r:AV) (st:St):List Nat:=reach st.h ga (r.names++oj st.h (eg 0 n)) (eg 0 n)
def g6 (n:Nat) (r:AV) (st:St):AV:=r.dp (fun o=>idx (gk n r st) o 0)
def gv (n:Nat) (r:AV) (st:St):St:=bj (jd st.h (fun o=>idx (gk n r st) o 0) (gk n r st))
theorem ak1 {g g':Gh} {st st':St} {w w':World} {r:AV} {v:Value} (hn:st.nx≤1000) (hfr:∀ o,st.nx≤o→g.inj o=none) (hs:Step g st.h w st.nx st'.nx g' st'.h w') (hok:Ok g' st'.h w') (hr:Rel g' w' r v) :
 ∃ g'',st.nx≤(gv st.nx r st').nx∧Step g st.h w st.nx (gv st.nx r st').nx g'' (gv st.nx r st').h w'∧Ok g'' (gv st.nx r st').h w'∧Rel g'' w' (g6 st.nx r st') v:=by
 have hN:=zd st'.h ga (r.names++oj st'.h (eg 0 st.nx)) (eg 0 st.nx) (qo _ _)
 change (gk st.nx r st').Nodup∧(∃ q,gk st.nx r st'=eg 0 st.nx++q)∧(gk st.nx r st').length≤_ at hN
 have hτ:∀ o p,(fun o=>idx (gk st.nx r st') o 0) o=some p→(gk st.nx r st')[p]? = some o:=fun o p h=>Eo _ o p h
 unfold gv g6
 generalize gk st.nx r st'=N at hN hτ
 obtain ⟨hnd,⟨rest,hpre⟩,hlen⟩:=hN
 rw [js] at hlen
 have hlim:N.length≤dk:=by simp only [ga,dk] at *;omega
 have ew:∀ i x,(bj (jd st'.h (fun o=>idx N o 0) N)).h.get i=some x→∃ o y,N[i]? = some o∧st'.h.get o=some y∧y.dp (fun o=>idx N o 0)=some x:=by
  intro i x hx
  simp only [bj] at hx
  rw [tt _ _ _ (by rw [iq];omega),if_pos (Nat.zero_le _),Nat.sub_zero,uo] at hx
  cases hi:N[i]? with
  |none=>rw [hi] at hx;cases hx
  |some o=>
   rw [hi] at hx
   simp only [Option.map_some,Option.join_some] at hx
   cases hy:st'.h.get o with
   |none=>rw [hy] at hx;cases hx
   |some y=>rw [hy] at hx;exact ⟨o,y,rfl,hy,hx⟩
 have hinj:∀ i o,N[i]? = some o→(g'.dp N).inj i=g'.inj o:=fun i o h=>by simp [Gh.dp,h]
 have hlow:∀ o,o<st.nx→N[o]? = some o:=fun o ho=>by rw [hpre,List.getElem?_append_left (by rw [js];exact ho),Eh _ _ _ ho,Nat.zero_add]
 have hnx:(bj (jd st'.h (fun o=>idx N o 0) N)).nx=N.length:=by simp only [bj,iq]
 have hle:st.nx≤N.length:=by rw [hpre,List.length_append,js];omega
 rw [hnx]
 refine ⟨g'.dp N,hle,⟨⟨hs.ext.b0,fun o p ho=>?_,hs.ext.K,hs.ext.cell,hs.ext.jb,hs.ext.lp,hs.ext.whole⟩,hs.size,hs.os,hs.tape,hs.output,hs.frame,fun o ho hr=>?_,fun i b base hi hj=>?_,hs.ov⟩,⟨hok.size,fun i x hx=>?_,fun i j x y b base base' hij hx hy hb hb'=>?_,hok.K⟩,hr.dp hτ⟩
 ·have hlt:o<st.nx:=by
   rcases Nat.lt_or_ge o st.nx with h|h
   ·exact h
   ·rw [hfr o h] at ho;cases ho
  rw [hinj o o (hlow o hlt)];exact hs.ext.inj o p ho
 ·rcases Nat.lt_or_ge o st.nx with h|h
  ·rw [hinj o o (hlow o h)];exact hs.fresh o ho (by omega)
  ·simp [Gh.dp,List.getElem?_eq_none (show N.length≤o by omega)]
 ·obtain ⟨x,hx⟩:=Option.isSome_iff_exists.1 hi
  obtain ⟨o,y,h1,h2,_⟩:=ew i x hx
  rw [hinj i o h1] at hj
  exact hs.own o b base (by rw [h2];rfl) hj
 ·obtain ⟨o,y,h1,h2,h3⟩:=ew i x hx
  refine (hok.oi o y h2).imp (fun q=>⟨by rw [hinj i o h1];exact q.1,by obtain ⟨s0,e0,rfl⟩:=q.2;simp only [bq.dp,AV.dp.go,Option.some.injEq] at h3;exact ⟨s0,e0,h3.symm⟩⟩) ?_
  rintro ⟨b,base,q1,q2,q3⟩
  exact ⟨b,base,by rw [hinj i o h1];exact q1,q2,q3.dp hτ h3⟩
 ·obtain ⟨o,y1,h1,h2,_⟩:=ew i x hx
  obtain ⟨o',y2,h1',h2',_⟩:=ew j y hy
  rw [hinj i o h1] at hb
  rw [hinj j o' h1'] at hb'
  have hne:o≠o':=by
   intro e
   subst e
   obtain ⟨hi,ei⟩:=List.getElem?_eq_some_iff.1 h1
   obtain ⟨hj,ej⟩:=List.getElem?_eq_some_iff.1 h1'
   exact hij ((List.getElem_inj hnd).1 (ei.trans ej.symm))
  exact hok.sep o o' _ _ b base base' hne h2 h2' hb hb'
theorem dr {P:Program} {f:Nat} {args:List AV} {st:St} {R:AV→St→Prop} (R0:AV→St→Prop) (hn:Nat.ble st.nx 1000=true) (h1:ib P f args st (fun r st'=>R0 (g6 st.nx r st') (gv st.nx r st'))) (h2:∀ r st',R0 r st'→R r st'):ib P f args st R:=by
 intro g w vs hok hfr hrel
 rcases h1 g w vs hok hfr hrel with ⟨v,w',g',r,st',q1,q2,q3,q4,q5,q6⟩|⟨q1,q2⟩
 ·obtain ⟨g'',p1,p2,p3,p4⟩:=ak1 (Nat.le_of_ble_eq_true hn) hfr q4 q5 q6
  exact .inl ⟨v,w',g'',_,_,q1,h2 _ _ q2,p1,p2,p3,p4⟩
 ·refine .inr ⟨q1,q2.mono ?_⟩
  rintro e w' ⟨v,g',r,st',rfl,q2,q3,q4,q5,q6⟩
  obtain ⟨g'',p1,p2,p3,p4⟩:=ak1 (Nat.le_of_ble_eq_true hn) hfr q4 q5 q6
  exact ⟨v,g'',_,_,rfl,h2 _ _ q2,p1,p2,p3,p4⟩
theorem Kn (l) (n:Name):kn (au.val l n)=some n.length:=by
 rw [cr];show some (List.map (aj.val l) n).length=_;rw [List.length_map]
theorem aj0 (a b:Operand):(#[a]++(none:Option Operand).toArray++(some b).toArray++(none:Option Operand).toArray).toList=[a,b]:=id rfl
theorem md4 (a:Nat):a * 4 / 4=a:=by omega
theorem md5 (a:Nat):a * 5 / 5=a:=by omega
theorem dv4 : 4 / 4=1:=rfl
theorem dv5 : 5 / 5=1:=rfl
theorem ak4 (k fr h n):(bh k).dec fr h [.sc (.int k n)]=some n:=(bh k).rt fr h true n (fun _=>rfl)
theorem Lc (l:Bool) (d:bt):(aq.val l d).cells=[.vl l 1 (d.names.map (au.val l)),.vl l 1 (d.nums.map (cw.val l)),.vl l 1 (d.texts.map (aj.val l)),.vl l 1 (d.raw.map (bu.val l))]:=id rfl
theorem M7 (fr h l) (n:Name) (hl:(l || !fr)=true):jj aj fr h (au.val l n)=some n:=u5 aj fr h l n 1 rfl hl
def acx {α:Type} (C:dm α) (h:Tr bq) (off:Nat) (x:bq):Option α:=
 match x with
 |.row cells _ _ _=>bif Nat.ble (off+C.sz) cells.length then C.dec false h ((cells.drop off).take C.sz) else none
 |_=>none
def Xg {α:Type} (C:dm α) (h:Tr bq) (a:AV):Option α:=
 match a with
 |.fy l=>bif Nat.ble C.sz l.length then C.dec false h (l.take C.sz) else none
 |.ptr o off=>(h.get o).bind (acx C h off)
 |_=>none
theorem So {α:Type} (C:dm α) (h o off):Xg C h (.ptr o off)=(h.get o).bind (acx C h off):=id rfl
theorem Y4 {α:Type} (C:dm α) (h l):Xg C h (.fy l)=bif Nat.ble C.sz l.length then C.dec false h (l.take C.sz) else none:=id rfl
theorem Rp {α:Type} (C:dm α) (h off cells k s e):acx C h off (.row cells k s e)=bif Nat.ble (off+C.sz) cells.length then C.dec false h ((cells.drop off).take C.sz) else none:=id rfl
theorem ayl {α:Type} (C:dm α) {g h w K b0 a v x} (hok:Ok g h w) (hl:wk g h K) (hr:Rel g w a v) (hd:Xg C h a=some x):Rel (gK b0 K) w (.fy (C.cells false x)) v:=by
 have fin:∀ (b off:Nat) (vs:List Value),cf g w ((C.cells false x).map fun _=>AV.bad) vs→cf (gK b0 K) w (C.cells false x) vs→(∀ j u,vs[j]? = some u→K b (off+j)∧w.cell? ⟨b,off+j,none⟩=some u)→Rel (gK b0 K) w (.fy (C.cells false x)) (.pointer (some ⟨b,off,none⟩)):=by
  intro b off vs _ hrl hc
  refine .fy _ b off (fun j=>vs.getD j undef) (fun j a hj=>?_) (fun j a hj=>?_)
  ·obtain ⟨u,hu,_⟩:=hrl.get hj
   have:=hc j u hu
   exact ⟨this.1,by rw [this.2,List.getD_eq_getElem?_getD,hu];rfl⟩
  ·obtain ⟨u,hu,hrel⟩:=hrl.get hj
   show Rel _ _ a (vs.getD j undef)
   rw [List.getD_eq_getElem?_getD,hu];exact hrel
 have bads:∀ vs:List Value,cf (gK b0 K) w (C.cells false x) vs→cf g w ((C.cells false x).map fun _=>AV.bad) vs:=fun vs h=>⟨by simpa using h.1,fun i a v ha _=>by
  rw [List.getElem?_map,Option.map_eq_some_iff] at ha
  obtain ⟨_,_,rfl⟩:=ha
  exact .bad _⟩
 cases hr with
 |fy l b off c h1 h2=>
  rw [Y4] at hd
  cases hb:Nat.ble C.sz l.length with
  |false=>rw [hb] at hd;cases hd
  |true=>
   rw [hb,cond_true] at hd
   have hle:=Nat.le_of_ble_eq_true hb
   have hlist:cf g w (l.take C.sz) (kh 0 C.sz c):=by
    refine ⟨by simp [kh];omega,fun i a v ha hv=>?_⟩
    rw [List.getElem?_take] at ha
    by_cases hi:i<C.sz
    ·rw [if_pos hi] at ha
     simp only [kh,List.getElem?_map,List.getElem?_range hi,Option.map_some,Option.some.injEq,Nat.zero_add] at hv
     subst hv
     exact h2 i a ha
    ·rw [if_neg hi] at ha;cases ha
   have q:=C.ok (b0:=b0) hok hl (fun e=>by cases e) hlist hd
   refine fin b off _ (bads _ q) q (fun j u hu=>?_)
   have hj:j<C.sz:=by have:=(List.getElem?_eq_some_iff.1 hu).1;simpa [kh] using this
   simp only [kh,List.getElem?_map,List.getElem?_range hj,Option.map_some,Option.some.injEq,Nat.zero_add] at hu
   subst hu
   have:=h1 j _ (List.getElem?_eq_getElem (by omega))
   exact ⟨hl.K _ _ this.1,this.2⟩
 |ptr o off b base hi=>
  rw [So,Option.bind_eq_some_iff] at hd
  obtain ⟨y,hy,hd⟩:=hd
  obtain ⟨b',base',hi',hbb,hrow⟩:=hok.obj o y hy
  rw [hi] at hi';cases hi'
  cases y with
  |map es=>cases hd
  |loop=>cases hd
  |row cells k st et=>
   rw [Rp] at hd
   cases hle:Nat.ble (off+C.sz) cells.length with
   |false=>rw [hle] at hd;cases hd
   |true=>
    rw [hle,cond_true] at hd
    have hle':=Nat.le_of_ble_eq_true hle
    obtain ⟨cs,fz,r1,r2,r3,_⟩:=hrow
    have hpart:cf g w ((cells.drop off).take C.sz) (kh (base+off) C.sz (fun j=>cs.getD j undef)):=by
     refine ⟨by simp [kh];omega,fun i a v ha hv=>?_⟩
     rw [List.getElem?_take,List.getElem?_drop] at ha
     by_cases hil:i<C.sz
     ·rw [if_pos hil] at ha
      obtain ⟨u,hu,hrel⟩:=r3 _ a ha
      simp only [kh,List.getElem?_map,List.getElem?_range hil,Option.map_some,Option.some.injEq] at hv
      subst hv
      rw [Array.getD_eq_getD_getElem?,Nat.add_assoc,hu]
      exact hrel
     ·rw [if_neg hil] at ha;cases ha
    have q:=C.ok (b0:=b0) hok hl (fun e=>by cases e) hpart hd
    refine fin b (base+off) _ (bads _ q) q (fun j u hv=>?_)
    have hj:j<C.sz:=by have:=(List.getElem?_eq_some_iff.1 hv).1;simpa [kh] using this
    simp only [kh,List.getElem?_map,List.getElem?_range hj,Option.map_some,Option.some.injEq] at hv
    obtain ⟨u,hu,_⟩:=r3 (off+j) (cells[off+j]'(by omega)) (by simp)
    have hrows:=hl.rows o cells k st et hy b base hi (off+j) (.inr (by omega))
    rw [← Nat.add_assoc] at hrows hu
    refine ⟨hrows,?_⟩
    rw [jn r1,hu,← hv,Array.getD_eq_getD_getElem?,hu]
    rfl
 |_=>cases hd
def aP {α β:Type} (C:dm α) (R:AC β):AC (α × β) where
 E p:=.fy (C.cells false p.1)::R.E p.2
 D h l:=match l with
  | []=>none
  |a::r=>match Xg C h a,R.D h r with
   |some x,some y=>some (x,y)
   |_,_=>none
 rt h p:=by
  have:Xg C h (.fy (C.cells false p.1))=some p.1:=by
   rw [Y4,C.len,Nat.ble_self_eq_true,cond_true,List.take_of_length_le (by rw [C.len];exact Nat.le_refl _)]
   exact C.rt false h false p.1 (fun e=>by cases e)
  simp only [this,R.rt]
 ok:=by
  intro g h w K b0 l vs x hok hl hr hd
  match l,hd with
  |a::r,hd=>
   simp only at hd
   split at hd
   ·rename_i x1 y1 hx hy
    simp at hd;subst hd
    match vs,hr with
    | [],hr=>have:=hr.1;simp at this
    |v::vs,hr=>exact cf.cons (ayl C hok hl hr.head hx) (R.ok hok hl hr.tail hy)
   ·cases hd
theorem aAo {α β:Type} (C:dm α) (R:AC β) (h:Tr bq) (a:AV) (r:List AV):(aP C R).get h (a::r)=match Xg C h a,R.get h r with|some x,some y=>some (x,y)|_,_=>none:=id rfl
theorem x6 (f) (l:List bt) (d:bt):cellsOf aq f (l++[d])=cellsOf aq f l++[.vl f 1 (d.names.map (au.val f)),.vl f 1 (d.nums.map (cw.val false)),.vl f 1 (d.texts.map (aj.val false)),.vl f 1 (d.raw.map (bu.val false))]:=by rw [xk,Qb];rfl
structure az where
 owner:Name
 type:UInt16
 cls:UInt16
 ey:UInt32
 data:List bt
def Nb (owner:Name) (type:UInt16) (cls:UInt16) (ey:UInt32) (data:List bt):az:=⟨owner,type,cls,ey,data⟩
theorem akc (x:az):Nb x.owner x.type x.cls x.ey x.data=x:=id rfl
theorem apx (owner type cls ey data):(Nb owner type cls ey data).owner=owner:=id rfl
theorem atx (owner type cls ey data):(Nb owner type cls ey data).data=data:=id rfl
def ah:dm az:=Db (m4 au (m4 cg (m4 cg (m4 cw (cq aq))))) (fun x=>(x.owner,x.type,x.cls,x.ey,x.data)) (fun p=>⟨p.1,p.2.1,p.2.2.1,p.2.2.2.1,p.2.2.2.2⟩) (fun _=>rfl) (fun _=>rfl)
theorem fu (l:Bool) (x:az):ah.val l x = .agg [.vl l 1 (x.owner.map (aj.val l)),.sc (.int .u16 x.type.toNat),.sc (.int .u16 x.cls.toNat),.sc (.int .u32 x.ey.toNat),.vl l 4 (x.data.map (aq.val l))]:=id rfl
theorem aah (l:Bool) (x:az):ah.cells l x=[.vl l 1 (x.owner.map (aj.val l)),.sc (.int .u16 x.type.toNat),.sc (.int .u16 x.cls.toNat),.sc (.int .u32 x.ey.toNat),.vl l 4 (x.data.map (aq.val l))]:=id rfl
theorem Zv:ah.sz=5:=id rfl
theorem Jm (fr:Bool) (h:Tr bq) (y0 y1 y2 y3 y4:AV):ah.jf fr h (.agg [y0,y1,y2,y3,y4])=match jj aj fr h y0,cg.dec fr h [y1],cg.dec fr h [y2],cw.dec fr h [y3],jj aq fr h y4 with
 |some v0,some v1,some v2,some v3,some v4=>some (Nb v0 v1 v2 v3 v4)
 |_,_,_,_,_=>none:=by
 rw [Bw _ _ _ _ rfl rfl]
 have h1:ah.dec fr h (AV.agg [y0,y1,y2,y3,y4]).cells=Option.map (fun p=>(⟨p.1,p.2.1,p.2.2.1,p.2.2.2.1,p.2.2.2.2⟩:az)) ((m4 au (m4 cg (m4 cg (m4 cw (cq aq))))).dec fr h [y0,y1,y2,y3,y4]):=rfl
 rw [h1]
 simp only [at2,Ez,xc,Lm,Df,I7,Cz,List.take_succ_cons,List.take_zero,List.drop_succ_cons,List.drop_zero,alv,anu]
 cases (jj aj fr h y0)<;>cases (cg.dec fr h [y1])<;>cases (cg.dec fr h [y2])<;>cases (cw.dec fr h [y3])<;>cases (jj aq fr h y4)<;>rfl
theorem Qf (fr:Bool) (h:Tr bq) (y0 y1 y2 y3 y4:AV):ah.dec fr h [y0,y1,y2,y3,y4]=match jj aj fr h y0,cg.dec fr h [y1],cg.dec fr h [y2],cw.dec fr h [y3],jj aq fr h y4 with
 |some v0,some v1,some v2,some v3,some v4=>some (Nb v0 v1 v2 v3 v4)
 |_,_,_,_,_=>none:=(Om ah fr h _ rfl).trans (Jm fr h y0 y1 y2 y3 y4)
theorem gh (l) (xs:List az) (x:az):cellsOf ah l (xs++[x])=cellsOf ah l xs++[.vl l 1 (x.owner.map (aj.val false)),.sc (.int .u16 x.type.toNat),.sc (.int .u16 x.cls.toNat),.sc (.int .u32 x.ey.toNat),.vl l 4 (x.data.map (aq.val l))]:=by rw [xk,Qb];rfl
structure bp where
 origin:Name
 ai:List az
def tp (origin:Name) (ai:List az):bp:=⟨origin,ai⟩
theorem ake (x:bp):tp x.origin x.ai=x:=id rfl
theorem Ur (origin ai):(tp origin ai).origin=origin:=id rfl
theorem agq (origin ai):(tp origin ai).ai=ai:=id rfl
def br:dm bp:=Db (m4 au (cq ah)) (fun x=>(x.origin,x.ai)) (fun p=>⟨p.1,p.2⟩) (fun _=>rfl) (fun _=>rfl)
theorem fq (l:Bool) (x:bp):br.val l x = .agg [.vl l 1 (x.origin.map (aj.val l)),.vl l 5 (x.ai.map (ah.val l))]:=id rfl
theorem B7 (l:Bool) (x:bp):br.cells l x=[.vl l 1 (x.origin.map (aj.val l)),.vl l 5 (x.ai.map (ah.val l))]:=id rfl
theorem Jl:br.sz=2:=id rfl
theorem Ho (fr:Bool) (h:Tr bq) (y0 y1:AV):br.jf fr h (.agg [y0,y1])=match jj aj fr h y0,jj ah fr h y1 with
 |some v0,some v1=>some (tp v0 v1)
 |_,_=>none:=by
 rw [Bw _ _ _ _ rfl rfl]
 have h1:br.dec fr h (AV.agg [y0,y1]).cells=Option.map (fun p=>(⟨p.1,p.2⟩:bp)) ((m4 au (cq ah)).dec fr h [y0,y1]):=rfl
 rw [h1]
 simp only [at2,Ez,xc,Lm,Df,I7,Cz,List.take_succ_cons,List.take_zero,List.drop_succ_cons,List.drop_zero,alv,anu]
 cases (jj aj fr h y0)<;>cases (jj ah fr h y1)<;>rfl
theorem Lv (fr:Bool) (h:Tr bq) (y0 y1:AV):br.dec fr h [y0,y1]=match jj aj fr h y0,jj ah fr h y1 with
 |some v0,some v1=>some (tp v0 v1)
 |_,_=>none:=(Om br fr h _ rfl).trans (Ho fr h y0 y1)
structure avx where
 addr:UInt32
 amk:List Int
structure afh where
 amk:List bp
 aBa:List avx
 hints:List UInt32
structure abc where
 kind:Int
 node:Name
 alc:Name
def mkP (kind:Int) (node:Name) (alc:Name):abc:=⟨kind,node,alc⟩
structure am6 where
 turn:Int
 ai:List az
 to:Name
def mkT (turn:Int) (ai:List az) (to:Name):am6:=⟨turn,ai,to⟩
structure ud where
 z:bp
 e:Int
def mkL (z:bp) (e:Int):ud:=⟨z,e⟩
theorem awp (z e):(mkL z e).z=z:=id rfl
def mu:dm ud:=Db (m4 br (bh .i64)) (fun x=>(x.z,x.e)) (fun p=>⟨p.1,p.2⟩) (fun _=>rfl) (fun _=>rfl)
theorem Bc (l:Bool) (x:ud):mu.cells l x=[.vl l 1 (x.z.origin.map (aj.val l)),.vl l 5 (x.z.ai.map (ah.val l)),.sc (.int .i64 x.e)]:=id rfl
theorem Sw:mu.sz=3:=id rfl
theorem ai5 (fr:Bool) (h:Tr bq) (y00 y01 y1:AV):mu.jf fr h (.agg [y00,y01,y1])=match br.jf fr h (.agg [y00,y01]),(bh .i64).dec fr h [y1] with
 |some v0,some v1=>some (mkL v0 v1)
 |_,_=>none:=by
 rw [Bw _ _ _ _ rfl rfl]
 have h1:mu.dec fr h (AV.agg [y00,y01,y1]).cells=Option.map (fun p=>(⟨p.1,p.2⟩:ud)) ((m4 br (bh .i64)).dec fr h [y00,y01,y1]):=rfl
 rw [h1]
 simp only [at2,Ez,xc,Lm,Df,I7,Cz,List.take_succ_cons,List.take_zero,List.drop_succ_cons,List.drop_zero,alv,anu,Jl,Om br fr h _ rfl]
 cases (br.jf fr h (.agg [y00,y01]))<;>cases ((bh .i64).dec fr h [y1])<;>rfl
theorem Nr (fr:Bool) (h:Tr bq) (y00 y01 y1:AV):mu.dec fr h [y00,y01,y1]=match br.jf fr h (.agg [y00,y01]),(bh .i64).dec fr h [y1] with
 |some v0,some v1=>some (mkL v0 v1)
 |_,_=>none:=(Om mu fr h _ rfl).trans (ai5 fr h y00 y01 y1)
structure M3 where
 awt:Int
 aa:Bool
 answer:List az
 authority:List az
 Kb:List az
def Z4 (awt:Int) (aa:Bool) (answer:List az) (authority:List az) (Kb:List az):M3:=⟨awt,aa,answer,authority,Kb⟩
theorem ae:type_of% @Kn∧type_of% @K6∧type_of% @aj0∧type_of% @md4∧type_of% @md5∧type_of% @dv4∧type_of% @dv5∧type_of% @ak4∧type_of% @So∧type_of% @Rp∧type_of% @aAo∧type_of% @M7∧type_of% @Lc∧type_of% @Qd∧type_of% @jv∧type_of% @ku∧type_of% @akc∧type_of% @Qf∧type_of% @fu∧type_of% @Zv∧type_of% @Jm∧type_of% @ake∧type_of% @Ur∧type_of% @agq∧type_of% @Lv∧type_of% @fq∧type_of% @Jl∧type_of% @Ho∧type_of% @awp∧type_of% @Nr∧type_of% @Sw:=
 ⟨@Kn,@K6,@aj0,@md4,@md5,@dv4,@dv5,@ak4,@So,@Rp,@aAo,@M7,@Lc,@Qd,@jv,@ku,@akc,@Qf,@fu,@Zv,@Jm,@ake,@Ur,@agq,@Lv,@fq,@Jl,@Ho,@awp,@Nr,@Sw⟩
end
end Go.Vm
end
section
namespace Go.Proofs.YtgencolcibpcaaaGreat
open Go.Vm
set_option maxRecDepth 2000000
noncomputable def Bz (t:UInt16) (l:List bt) (d:bt):Bool:=l.any fun x=>xw t x d
theorem aA0 (t:UInt16) (l:List bt) (d:bt) (hl:∀ x ∈ l,cy x) (hn:l.length≤16777216) (hd:cy d):wl PP [] 0 (Tryz.f112.body.getD .skip) (da PP Tryz.f112.results.toList (fun r st=>(r1 bo).get true st.h r=some (Bz t l d))) (cj 0 [cg.val false t,(cq aq).val false l,aq.val false d]) (bj []):=by
 unfold Tryz.f112
 simp only [om,gw]
 simp only [↓wR,RA,simprocAttr,TF,ae]
 refine ct (T:=[]) (ar.nil PP) mixed Tryz.func153 rfl (by kernel_rfl) (by kernel_rfl) (by kernel_rfl) (by kernel_rfl) ?_;unfold Tryz.f153
 simp only [↓wR,RA,simprocAttr,TF,ae]
 refine ct (T:=[]) (ar.nil PP) mixed Tryz.func180 rfl (by kernel_rfl) (by kernel_rfl) (by kernel_rfl) (by kernel_rfl) ?_;unfold Tryz.f180
 simp only [↓wR,RA,simprocAttr,TF,ae]
 refine c7 [0,1,7,8] (fun (i:Nat)=>[.vl false 4 (l.map (aq.val false)),.fn (.func 154) [] [.ptr 0 0,.ptr 1 0],.sc (.int .i64 (l.length)),.sc (.int .i64 (i))]) (fun _=>[some (.row [.sc (.int .u16 t.toNat)] 0 2 26),some (.row [.vl false 1 (d.names.map (au.val false)),.vl false 1 (d.nums.map (cw.val false)),.vl false 1 (d.texts.map (aj.val false)),.vl false 1 (d.raw.map (bu.val false))] 0 2 101)]) (fun i=>i≤l.length∧Bz t l d=Bz t (l.drop i) d) (fun i=>l.length - i) 0 ⟨Nat.zero_le _,rfl⟩ (by simp only [↓wR,RA,simprocAttr,TF,ae]<;>rfl) (by simp only [↓wR,RA,simprocAttr,TF,ae]<;>rfl) ?_
 rintro i ⟨hi,hx⟩
 simp only [↓wR,RA,simprocAttr,TF,ae]
 rw [aw];refine ⟨fun h=>?_,fun h=>?_⟩
 ·obtain ⟨c,hc,hd1,hlt⟩:=dx (decide_eq_true h)
  have hx':Bz t l d=(xw t c d || Bz t (l.drop (i+1)) d):=by rw [hx,hd1];rfl
  simp only [↓wR,RA,simprocAttr,TF,ae,h,hc];repeat (simp (disch:=omega) only [ag,bf,bg,be,bb];try simp only [↓wR,RA,simprocAttr,TF,ae,h,hc])
  refine ct (T:=[avf]) (ar.cons (ak aaw) (ar.nil PP)) mixed Tryz.func154 rfl (by kernel_rfl) (by kernel_rfl) (by kernel_rfl) (by kernel_rfl) ?_;unfold Tryz.f154
  simp only [↓wR,RA,simprocAttr,TF,ae,C5,hl c (List.mem_of_getElem? hc),hd]
  rw [di];refine ⟨fun h1=>?_,fun h1=>?_⟩
  ·rw [h1,Bool.true_or] at hx'
   simp only [↓wR,RA,simprocAttr,TF,ae,h1]
   rw [hx']
   done
  ·rw [h1,Bool.false_or] at hx'
   simp only [↓wR,RA,simprocAttr,TF,ae,h1];repeat (simp (disch:=omega) only [ag,bf,bg,be,bb];try simp only [↓wR,RA,simprocAttr,TF,ae,h1])
   exact ⟨i+1,⟨hlt,hx'⟩,by omega,by (first|rfl|trivial|omega|((try (simp (disch:=omega) only [ag]));(try (simp only [FB]));first|done|rfl|omega))⟩
 ·rw [fl (decide_eq_false h)] at hx
  simp only [↓wR,RA,simprocAttr,TF,ae,h]
  rw [hx];rfl
def nk (l:List bt):Prop:=gj Ba l≤16777216
instance (l:List bt):Decidable (nk l):=inferInstanceAs (Decidable (_≤_))
theorem nk.mem {l:List bt} (h:nk l):∀ x ∈ l,cy x:=fun x hx=>by
 have h1:Ba x<gj Ba l:=H6 hx
 unfold nk at h;unfold cy;omega
theorem nk.len {l:List bt} (h:nk l):l.length≤16777216:=Nat.le_trans (Et Ba l) h
theorem Rl {α:Type} (f : α→Nat) (l:List α) (i:Nat):gj f (l.take i)≤gj f l:=by
 induction l generalizing i with
 |nil=>simp
 |cons a l ih=>
  cases i with
  |zero=>exact Nat.zero_le _
  |succ i=>have:=ih i;simp only [gj,List.take_succ_cons,List.foldr_cons] at this ⊢;omega
theorem nk.take {l:List bt} (h:nk l) (i:Nat):nk (l.take i):=Nat.le_trans (Rl Ba l i) h
noncomputable def Vs (x:UInt16 × List bt × bt × Unit):Option AV:=if nk x.2.1∧cy x.2.2.1 then some ((r1 bo).E true (Bz x.1 x.2.1 x.2.2.1)) else none
set_option maxRecDepth 2000000 in
theorem aph (x:UInt16 × List bt × bt × Unit) (r:AV) (h:Vs x=some r):bk PP 112 ((aC cg (aC (cq aq) (aC aq a0))).E x) r:=by
 by_cases hc:nk x.2.1∧cy x.2.2.1
 case neg=>simp only [Vs,if_neg hc] at h;cases h
 simp only [Vs,if_pos hc] at h
 cases h
 exact ay (ar.nil PP) Tryz.func112 (by kernel_rfl) (by kernel_rfl) (by kernel_rfl) (Nat.le_of_ble_eq_true (by kernel_rfl)) (r1 bo) true (Bz x.1 x.2.1 x.2.2.1) (aA0 x.1 x.2.1 x.2.2.1 hc.1.mem hc.1.len hc.2)
noncomputable abbrev aCm:Nat × Bool × (List AV→M AV):=(112,true,c8 (aC cg (aC (cq aq) (aC aq a0))) Vs)
def jh (s:az):Nat:=ca s.owner+gj Ba s.data
def cd (s:az):Prop:=jh s≤16777216
instance (s:az):Decidable (cd s):=inferInstanceAs (Decidable (_≤_))
theorem cd.owner {s:az} (h:cd s):bw s.owner:=by unfold cd jh at h;unfold bw;omega
theorem cd.data {s:az} (h:cd s):nk s.data:=by unfold cd jh at h;unfold nk;omega
noncomputable def qv (t:UInt16):List bt→List bt→Int
 |_,[]=>0
 |pre,d::r=>if dw t d≠0 then dw t d else if Bz t pre d=true then 10 else qv t (pre++[d]) r
noncomputable def py (s:az):Int:=
 if du s.owner≠0 then du s.owner else if s.data.length=0 then 9 else if 512<s.data.length then 3 else qv s.type [] s.data
theorem Qw (t:UInt16) {l:List bt} {i:Nat} {c:bt} (hc:l[i]? = some c):qv t (l.take i) (l.drop i)=if dw t c≠0 then dw t c else if Bz t (l.take i) c=true then 10 else qv t (l.take (i+1)) (l.drop (i+1)):=by
 obtain ⟨hi,rfl⟩:=List.getElem?_eq_some_iff.1 hc
 rw [List.drop_eq_getElem_cons hi,qv,List.take_succ_eq_append_getElem hi]
theorem ah6 (s:az) (hs:cd s):wl PP [ft,Gx,aCm] 0 (Tryz.f119.body.getD .skip) (da PP Tryz.f119.results.toList (fun r st=>(r1 (bh .i64)).get true st.h r=some (py s))) (cj 0 [ah.val false s]) (bj []):=by
 have ho:=hs.owner
 have hd:=hs.data
 have hn:=hd.len
 unfold Tryz.f119
 simp only [fu]
 simp only [↓wR,RA,simprocAttr,TF,ae,sd,ho.fit]
 unfold py
 rw [di];refine ⟨fun h=>?_,fun h=>?_⟩
 ·have he:du s.owner≠0:=by simpa using h
  rw [if_pos he]
  simp only [↓wR,RA,simprocAttr,TF,ae,h]
 have he:du s.owner=0:=by simpa using h
 rw [if_neg (by omega)]
 simp only [↓wR,RA,simprocAttr,TF,ae,h]
 rw [cp];refine ⟨fun ⟨h1,e1⟩=>?_,fun ⟨h1,e1⟩=>?_⟩
 ·rw [if_pos (by omega)]
  simp only [↓wR,RA,simprocAttr,TF,ae,h1]
 rw [if_neg (by omega)]
 simp only [↓wR,RA,simprocAttr,TF,ae,h1]
 rw [aw];refine ⟨fun h2=>?_,fun h2=>?_⟩
 ·rw [if_pos (by omega)]
  simp only [↓wR,RA,simprocAttr,TF,ae,h2]
 rw [if_neg (by omega)]
 simp only [↓wR,RA,simprocAttr,TF,ae,h2]
 refine c7 [1,24,25,26] (fun (i:Nat)=>[.ptr 0 0,.vl false 4 (s.data.map (aq.val false)),.sc (.int .i64 (s.data.length)),.sc (.int .i64 (i))]) (fun _=>[some (.row [.vl false 1 (s.owner.map (aj.val false)),.sc (.int .u16 s.type.toNat),.sc (.int .u16 s.cls.toNat),.sc (.int .u32 s.ey.toNat),.vl false 4 (s.data.map (aq.val false))] 0 2 31)]) (fun i=>i≤s.data.length∧qv s.type [] s.data=qv s.type (s.data.take i) (s.data.drop i)) (fun i=>s.data.length - i) 0 ⟨Nat.zero_le _,rfl⟩ (by simp only [↓wR,RA,simprocAttr,TF,ae]<;>rfl) (by simp only [↓wR,RA,simprocAttr,TF,ae]<;>rfl) ?_
 rintro i ⟨hi,hx⟩
 simp only [↓wR,RA,simprocAttr,TF,ae]
 rw [aw];refine ⟨fun h3=>?_,fun h3=>?_⟩
 ·obtain ⟨c,hc,hd1,hlt⟩:=dx (decide_eq_true h3)
  rw [Qw _ hc] at hx
  have hcs:=hd.mem c (List.mem_of_getElem? hc)
  simp only [↓wR,RA,simprocAttr,TF,ae,h3,hc,qg,hcs]
  rw [di];refine ⟨fun h4=>?_,fun h4=>?_⟩
  ·have he4:dw s.type c≠0:=by simpa using h4
   rw [if_pos he4] at hx
   simp only [↓wR,RA,simprocAttr,TF,ae,h4]
   rw [hx]
  ·have he4:dw s.type c=0:=by simpa using h4
   rw [if_neg (by omega)] at hx
   simp only [↓wR,RA,simprocAttr,TF,ae,h4]
   refine ⟨by kernel_rfl,.inl ?_⟩
   simp only [↓wR,RA,simprocAttr,TF,ae,hi,Vs,hd.take i,hcs]
   refine ⟨by kernel_rfl,?_⟩
   rw [di];refine ⟨fun h5=>?_,fun h5=>?_⟩
   ·rw [if_pos h5] at hx
    simp only [↓wR,RA,simprocAttr,TF,ae,h5]
    rw [hx]
   ·rw [if_neg (by rw [h5];decide)] at hx
    simp only [↓wR,RA,simprocAttr,TF,ae,h5];repeat (simp (disch:=omega) only [ag,bf,bg,be,bb];try simp only [↓wR,RA,simprocAttr,TF,ae,h5])
    exact ⟨i+1,⟨hlt,hx⟩,by omega,by (first|rfl|trivial|omega|((try (simp (disch:=omega) only [ag]));(try (simp only [FB]));first|done|rfl|omega))⟩
 ·rw [fl (decide_eq_false h3)] at hx
  simp only [↓wR,RA,simprocAttr,TF,ae,h3]
  rw [hx];rfl
noncomputable def yv (x:az × Unit):Option AV:=if cd x.1 then some ((r1 (bh .i64)).E true (py x.1)) else none
set_option maxRecDepth 2000000 in
theorem Kt (x:az × Unit) (r:AV) (h:yv x=some r):bk PP 119 ((aC ah a0).E x) r:=by
 by_cases hc:cd x.1
 case neg=>simp only [yv,if_neg hc] at h;cases h
 simp only [yv,if_pos hc] at h
 cases h
 exact ay (ar.cons (ak tn) (ar.cons (ak wj) (ar.cons (ak aph) (ar.nil PP)))) Tryz.func119 (by kernel_rfl) (by kernel_rfl) (by kernel_rfl) (Nat.le_of_ble_eq_true (by kernel_rfl)) (r1 (bh .i64)) true (py x.1) (ah6 x.1 hc)
noncomputable abbrev ia:Nat × Bool × (List AV→M AV):=(119,true,c8 (aC ah a0) yv)
theorem abx {S:Nat→Prop} {M b0:Nat} {K:Nat→Nat→Prop} {w:World} {l:List ByteArray} {v:Value} (hS:∀ b,b0≤b→(∀ j,K b j)→S b) (hM:∀ s ∈ l,s.size≤M) (hr:Rel (gK b0 K) w (.vl true 1 (l.map (aj.val true))) v):nw S M w .str v:=by
 refine Wv (l:=true) aj rfl rfl rfl (by decide) (fun x hx c hc s e=>?_) (fun x hx c hc=>?_) hS hr
 ·have hc':c ∈ [AV.sc (.string x)]:=hc
  rw [List.mem_singleton] at hc'
  rw [hc'] at e;cases e
  exact hM _ hx
 ·have hc':c ∈ [AV.sc (.string x)]:=hc
  rw [List.mem_singleton] at hc'
  exact ⟨_,hc'⟩
theorem atv {S:Nat→Prop} {M b0:Nat} {K:Nat→Nat→Prop} {w:World} {l:List UInt32} {v:Value} (hS:∀ b,b0≤b→(∀ j,K b j)→S b) (hr:Rel (gK b0 K) w (.vl true 1 (l.map (cw.val true))) v):nw S M w (.int .u32) v:=by
 refine Wv (l:=true) cw rfl rfl rfl (by decide) (fun x hx c hc s e=>?_) (fun x hx c hc=>?_) hS hr
 ·have hc':c ∈ [AV.sc (.int .u32 x.toNat)]:=hc
  rw [List.mem_singleton] at hc'
  rw [hc'] at e;cases e
 ·have hc':c ∈ [AV.sc (.int .u32 x.toNat)]:=hc
  rw [List.mem_singleton] at hc'
  exact ⟨_,hc'⟩
theorem aya {S:Nat→Prop} {M b0:Nat} {K:Nat→Nat→Prop} {w:World} {l:List UInt8} {v:Value} (hS:∀ b,b0≤b→(∀ j,K b j)→S b) (hr:Rel (gK b0 K) w (.vl true 1 (l.map (bu.val true))) v):nw S M w (.int .u8) v:=by
 refine Wv (l:=true) bu rfl rfl rfl (by decide) (fun x hx c hc s e=>?_) (fun x hx c hc=>?_) hS hr
 ·have hc':c ∈ [AV.sc (.int .u8 x.toNat)]:=hc
  rw [List.mem_singleton] at hc'
  rw [hc'] at e;cases e
 ·have hc':c ∈ [AV.sc (.int .u8 x.toNat)]:=hc
  rw [List.mem_singleton] at hc'
  exact ⟨_,hc'⟩
theorem size_le (n:Name):∀ s ∈ n,s.size≤ca n:=by
 intro s hs
 obtain ⟨i,hi,rfl⟩:=List.getElem_of_mem hs
 have h1:=Dz n i _ (List.getElem?_eq_getElem hi)
 have h2:=(j8 n (i+1)).1
 omega
theorem L6 {S:Nat→Prop} {b0:Nat} {K:Nat→Nat→Prop} {w:World} {n:Name} {v:Value} (hS:∀ b,b0≤b→(∀ j,K b j)→S b) (hn:bw n) (hr:Rel (gK b0 K) w (.vl true 1 (n.map (aj.val true))) v):nw S 16777216 w .str v:=
 abx hS (fun s hs=>by have:=size_le n s hs;unfold bw at hn;omega) hr
theorem ax7 {S:Nat→Prop} {b0:Nat} {K:Nat→Nat→Prop} {w:World} {d:bt} {vs:List Value} (hS:∀ b,b0≤b→(∀ j,K b j)→S b) (hd:cy d) (hr:cf (gK b0 K) w (aq.cells true d) vs):Oj S 16777216 16777216 w vs:=by
 have h4:vs.length=4:=hr.1
 match vs,h4,hr with
 | [a,b,c,e],_,hr=>
  have ha:Rel (gK b0 K) w (.vl true 1 (d.names.map (au.val true))) a:=hr.2 0 _ _ rfl rfl
  have hb:Rel (gK b0 K) w (.vl true 1 (d.nums.map (cw.val true))) b:=hr.2 1 _ _ rfl rfl
  have hc:Rel (gK b0 K) w (.vl true 1 (d.texts.map (aj.val true))) c:=hr.2 2 _ _ rfl rfl
  have he:Rel (gK b0 K) w (.vl true 1 (d.raw.map (bu.val true))) e:=hr.2 3 _ _ rfl rfl
  refine ⟨a,b,c,e,rfl,V3 (l:=true) au rfl hd.lens.1 (fun n hn us hus=>?_) hS ha,atv hS hb,abx hS (fun s hs=>hd.text s hs) hc,aya hS he⟩
  have h1:us.length=1:=hus.1
  match us,h1,hus with
  | [u],_,hus=>exact ⟨u,rfl,L6 hS (hd.name n hn) hus.head⟩
theorem aAz {S:Nat→Prop} {b0:Nat} {K:Nat→Nat→Prop} {w:World} {s:az} {vs:List Value} (hS:∀ b,b0≤b→(∀ j,K b j)→S b) (hs:cd s) (hr:cf (gK b0 K) w (ah.cells true s) vs):Mf S 16777216 16777216 16777216 w vs:=by
 have h5:vs.length=5:=hr.1
 match vs,h5,hr with
 | [o,t,c,u,d],_,hr=>
  have ho:Rel (gK b0 K) w (.vl true 1 (s.owner.map (aj.val true))) o:=hr.2 0 _ _ rfl rfl
  have ht:Rel (gK b0 K) w (.sc (.int .u16 s.type.toNat)) t:=hr.2 1 _ _ rfl rfl
  have hc:Rel (gK b0 K) w (.sc (.int .u16 s.cls.toNat)) c:=hr.2 2 _ _ rfl rfl
  have hu:Rel (gK b0 K) w (.sc (.int .u32 s.ey.toNat)) u:=hr.2 3 _ _ rfl rfl
  have hd:Rel (gK b0 K) w (.vl true 4 (s.data.map (aq.val true))) d:=hr.2 4 _ _ rfl rfl
  refine ⟨o,t,c,u,d,rfl,L6 hS hs.owner ho,by rw [ht.exact rfl];rfl,by rw [hc.exact rfl];rfl,by rw [hu.exact rfl];rfl,V3 (l:=true) aq rfl (hs.data.len) (fun x hx us hus=>ax7 hS (hs.data.mem x hx) hus) hS hd⟩
theorem axv {S:Nat→Prop} {N b0:Nat} {K:Nat→Nat→Prop} {w:World} {l:List az} {v:Value} (hS:∀ b,b0≤b→(∀ j,K b j)→S b) (hl:∀ s ∈ l,cd s) (hN:l.length≤N) (hr:Rel (gK b0 K) w (.vl true 5 (l.map (ah.val true))) v):my S N w 5 (Mf S 16777216 16777216 16777216) v:=
 V3 (l:=true) ah rfl hN (fun s hs us hus=>aAz hS (hl s hs) hus) hS hr
theorem alj (s:az) (hs:cd s):wl PP [Be,afo] 0 (Tryz.f53.body.getD .skip) (da PP Tryz.f53.results.toList (fun r st=>(r1 ah).get true st.h r=some s)) (cj 0 [ah.val false s]) (bj []):=by
 have ho:=hs.owner
 have hd:=hs.data
 have hn:=hd.len
 unfold Tryz.f53
 simp only [fu]
 simp only [↓wR,RA,simprocAttr,TF,ae,qn,ho]
 refine fj [2,13,14,15,3] (fun (x:List bt)=>[.ptr 0 0,.vl false 4 (s.data.map (aq.val false)),.sc (.int .i64 (s.data.length)),.sc (.int .i64 (x.length)),.ptr 1 0]) (fun x=>[some (.row [.sc (.slice none 0 0),.sc (.int .u16 0),.sc (.int .u16 0),.sc (.int .u32 0),.sc (.slice none 0 0)] 0 2 31),some (.row [au.val true s.owner,.sc (.int .u16 s.type.toNat),.sc (.int .u16 s.cls.toNat),.sc (.int .u32 s.ey.toNat),.sl 2 0 x.length 4] 0 2 31),some (.row (cellsOf aq true x) 0 0 101)]) (fun x=>x.length≤s.data.length∧x++s.data.drop x.length=s.data) (fun x=>s.data.length - x.length) [] ⟨Nat.zero_le _,rfl⟩ (by simp only [↓wR,RA,simprocAttr,TF,ae];(refine ji.lax [] (by first|exact Nat.le_of_ble_eq_true rfl|(simp [dk];omega)) ?_ ?_<;>repeat' first|exact ef.nil|exact b9.nil|exact fe.same _|exact fe.nil _ _ _|exact fe.lu _ _|exact b9.refl _ _|apply ef.cons|apply b9.ghost|apply b9.same|apply b9.row)) ?_
 rintro x ⟨hi,hx⟩
 simp only [↓wR,RA,simprocAttr,TF,ae]
 rw [aw];refine ⟨fun h=>?_,fun h=>?_⟩
 ·obtain ⟨c,hc,hd1,hlt⟩:=dx (decide_eq_true h)
  rw [hd1] at hx
  have hcs:=hd.mem c (List.mem_of_getElem? hc)
  simp only [↓wR,RA,simprocAttr,TF,ae,h,hc]
  refine ⟨by kernel_rfl,.inl ?_⟩
  have hlim:(x.length * 4+4) * 96≤140737488355328:=by omega
  simp only [↓wR,RA,simprocAttr,TF,ae,zc,hcs,hlim]
  refine ⟨by kernel_rfl,x++[c],⟨by simp;omega,by simpa using hx⟩,by simp;omega,by (first|rfl|trivial|omega|((try (simp (disch:=omega) only [ag]));(try (simp only [FB]));first|done|rfl|omega)),?_⟩
  rw [x6,List.length_append];rfl
 ·rw [fl (decide_eq_false h)] at hx
  rw [List.append_nil] at hx
  subst hx
  simp only [↓wR,RA,simprocAttr,TF,ae,h]
noncomputable def Ch (x:az × Unit):Option AV:=if cd x.1 then some ((r1 ah).E true (x.1)) else none
set_option maxRecDepth 2000000 in
theorem adx (x:az × Unit) (r:AV) (h:Ch x=some r):bk PP 53 ((aC ah a0).E x) r:=by
 by_cases hc:cd x.1
 case neg=>simp only [Ch,if_neg hc] at h;cases h
 simp only [Ch,if_pos hc] at h
 cases h
 exact ay (ar.cons (ak ri) (ar.cons (ak Lb) (ar.nil PP))) Tryz.func53 (by kernel_rfl) (by kernel_rfl) (by kernel_rfl) (Nat.le_of_ble_eq_true (by kernel_rfl)) (r1 ah) true (x.1) (alj x.1 hc)
noncomputable abbrev axz:Nat × Bool × (List AV→M AV):=(53,true,c8 (aC ah a0) Ch)
def sy (z:bp):Nat:=ca z.origin+gj jh z.ai
def bz (z:bp):Prop:=sy z≤16777216
instance (z:bp):Decidable (bz z):=inferInstanceAs (Decidable (_≤_))
theorem bz.origin {z:bp} (h:bz z):bw z.origin:=by unfold bz sy at h;unfold bw;omega
theorem bz.set {z:bp} (h:bz z):∀ s ∈ z.ai,cd s:=fun s hs=>by
 have h1:jh s<gj jh z.ai:=H6 hs
 unfold bz sy at h;unfold cd;omega
theorem bz.len {z:bp} (h:bz z):z.ai.length≤16777216:=by have:=Et jh z.ai;unfold bz sy at h;omega
def Bp (n top:Name):Bool:=decide (top.length<n.length) && gq n top
theorem at5 (n top:Name) (hn:bw n) (ht:bw top):wl PP [N3] 0 (Tryz.f71.body.getD .skip) (da PP Tryz.f71.results.toList (fun r st=>(r1 bo).get true st.h r=some (Bp n top))) (cj 0 [au.val false n,au.val false top]) (bj []):=by
 unfold Tryz.f71
 simp only [cr]
 simp only [↓wR,RA,simprocAttr,TF,ae]
 unfold Bp
 rw [aw];refine ⟨fun h=>?_,fun h=>?_⟩
 ·rw [decide_eq_true (show top.length<n.length by omega)]
  simp only [↓wR,RA,simprocAttr,TF,ae,h,uc,hn,ht]
 ·rw [decide_eq_false (show ¬ top.length<n.length by omega)]
  simp only [↓wR,RA,simprocAttr,TF,ae,h]
  rfl
noncomputable def Ia (x:Name × Name × Unit):Option AV:=if bw x.1∧bw x.2.1 then some ((r1 bo).E true (Bp x.1 x.2.1)) else none
set_option maxRecDepth 2000000 in
theorem aij (x:Name × Name × Unit) (r:AV) (h:Ia x=some r):bk PP 71 ((aC au (aC au a0)).E x) r:=by
 by_cases hc:bw x.1∧bw x.2.1
 case neg=>simp only [Ia,if_neg hc] at h;cases h
 simp only [Ia,if_pos hc] at h
 cases h
 exact ay (ar.cons (ak Bq) (ar.nil PP)) Tryz.func71 (by kernel_rfl) (by kernel_rfl) (by kernel_rfl) (Nat.le_of_ble_eq_true (by kernel_rfl)) (r1 bo) true (Bp x.1 x.2.1) (at5 x.1 x.2.1 hc.1 hc.2)
noncomputable abbrev azw:Nat × Bool × (List AV→M AV):=(71,true,c8 (aC au (aC au a0)) Ia)
def Vo (z:bp) (n:Name):List az:=z.ai.filter fun s=>er s.owner n
def Bk (n:Name) (b:Option Name):Bool:=match b with|none=>true|some m=>decide (n.length<m.length)
def ky (z:bp) (n:Name) (best:Option Name) (s:az):Option Name:=
 if (decide ((s.type.toNat:Int)=2) && (Bp s.owner z.origin && (gq n s.owner && Bk s.owner best)))=true then some s.owner else best
def qe (z:bp) (n:Name):Option Name:=z.ai.foldl (ky z n) none
theorem Zl {z:bp} {n:Name} (hz:bz z):∀ (l:List az) (b:Option Name),(∀ s ∈ l,s ∈ z.ai)→(∀ m,b=some m→bw m)→∀ m,l.foldl (ky z n) b=some m→bw m:=by
 intro l
 induction l with
 |nil=>intro b _ hb m hm;exact hb m hm
 |cons s l ih=>
  intro b hl hb m hm
  refine ih (ky z n b s) (fun x hx=>hl x (by simp [hx])) (fun q hq=>?_) m hm
  unfold ky at hq
  split at hq
  ·cases hq;exact (hz.set s (hl s (by simp))).owner
  ·exact hb q hq
theorem az4 (z:bp) (n:Name) (hz:bz z) (hn:bw n):wl PP [N3,azw,Be] 0 (Tryz.f25.body.getD .skip) (da PP Tryz.f25.results.toList (fun r st=>(r2 au bo).get true st.h r=some ((qe z n).getD [],(qe z n).isSome))) (cj 0 [br.val false z,au.val false n]) (bj []):=by
 have hl:=hz.len
 unfold Tryz.f25
 simp only [fq,cr]
 simp only [↓wR,RA,simprocAttr,TF,ae]
 refine ct (T:=[]) (ar.nil PP) mixed Tryz.func70 rfl (by kernel_rfl) (by kernel_rfl) (by kernel_rfl) (by kernel_rfl) ?_;unfold Tryz.f70
 simp only [↓wR,RA,simprocAttr,TF,ae]
 refine ⟨[2,3,6,7,10],?_⟩
 have hib:Cw PP 120=some (Tryz.f120.ntmps,Tryz.f120.body.getD .skip):=by kernel_rfl
 simp only [↓wR,RA,simprocAttr,TF,ae,hib]
 refine ⟨by kernel_rfl,fun l=>?_⟩
 unfold Tryz.f120
 simp only [↓wR,RA,simprocAttr,TF,ae]
 refine anm [0,2,7,8,9] (fun (x:Nat × Option Name)=>[.sc (.func (.yield l) #[] #[]),.ptr 5 0,.vl false 5 (z.ai.map (ah.val false)),.sc (.int .i64 (z.ai.length)),.sc (.int .i64 (x.1))]) (fun x=>[some (.row [.vl false 1 (z.origin.map (aj.val false)),.vl false 5 (z.ai.map (ah.val false))] 0 2 41),some (.row [.vl false 1 (n.map (aj.val false))] 0 2 24),some (.row [.vl false 1 ((x.2.getD []).map (aj.val false))] 0 2 24),some (.row [.sc (.bool (x.2.isSome))] 0 2 4),some (.row [.vl false 1 (z.origin.map (aj.val false)),.vl false 5 (z.ai.map (ah.val false))] 0 2 41),some (.row [.sc (.int .u16 2)] 0 2 26)]) (fun x=>x.1≤z.ai.length∧qe z n=(z.ai.drop x.1).foldl (ky z n) x.2∧∀ m,x.2=some m→bw m) (fun x=>z.ai.length - x.1) (0,none) ⟨Nat.zero_le _,rfl,fun m hm=>by cases hm⟩ (by simp only [↓wR,RA,simprocAttr,TF,ae];(refine ji.lax [] (by first|exact Nat.le_of_ble_eq_true rfl|(simp [dk];omega)) ?_ ?_<;>repeat' first|exact ef.nil|exact b9.nil|exact fe.same _|exact fe.nil _ _ _|exact fe.lu _ _|exact b9.refl _ _|apply ef.cons|apply b9.ghost|apply b9.same|apply b9.row)) ?_
 rintro ⟨i,b⟩ ⟨hi,hx,hb⟩
 simp only at hi hx hb
 simp only [↓wR,RA,simprocAttr,TF,ae]
 rw [wt];refine ⟨fun h=>?_,fun h=>?_⟩
 ·obtain ⟨c,hc,hd1,hlt⟩:=dx h
  have hcs:=hz.set c (List.mem_of_getElem? hc)
  have hstep:qe z n=(z.ai.drop (i+1)).foldl (ky z n) (ky z n b c):=by rw [hx,hd1];rfl
  simp only [↓wR,RA,simprocAttr,TF,ae,h,hc]
  rw [wt];refine ⟨fun h2=>?_,fun h2=>?_⟩
  ·have e2:(c.type.toNat:Int)=2:=by simpa using h2
   simp only [↓wR,RA,simprocAttr,TF,ae,h2]
   refine zp [0,2,7,8,9,17,19] ?_
   simp only [↓wR,RA,simprocAttr,TF,ae,Af,oe,Ia,hcs.owner,hz.origin]
   rw [di];refine ⟨fun h3=>?_,fun h3=>?_⟩
   ·simp only [↓wR,RA,simprocAttr,TF,ae,h3,uc,hcs.owner,hn]
    rw [di];refine ⟨fun h4=>?_,fun h4=>?_⟩
    ·cases b with
     |none=>
      have hb2:ky z n none c=some c.owner:=by simp [ky,e2,h3,h4,Bk]
      rw [hb2] at hstep
      simp only [↓wR,RA,simprocAttr,TF,ae,h4,Option.isSome_none];repeat (simp (disch:=omega) only [ag,bf,bg,be,bb];try simp only [↓wR,RA,simprocAttr,TF,ae,h4,Option.isSome_none])
      exact ⟨(i+1,some c.owner),⟨hlt,hstep,fun m hm=>by cases hm;exact hcs.owner⟩,by simp;omega,by (first|rfl|trivial|omega|((try (simp (disch:=omega) only [ag]));(try (simp only [FB]));first|done|rfl|omega)),by (first|rfl|trivial|omega|((try (simp (disch:=omega) only [ag]));(try (simp only [FB]));first|done|rfl|omega))⟩
     |some m=>
      simp only [↓wR,RA,simprocAttr,TF,ae,h4]
      rw [aw];refine ⟨fun h5=>?_,fun h5=>?_⟩
      ·have hb2:ky z n (some m) c=some c.owner:=by simp [ky,e2,h3,h4,Bk];omega
       rw [hb2] at hstep
       simp only [↓wR,RA,simprocAttr,TF,ae,h5];repeat (simp (disch:=omega) only [ag,bf,bg,be,bb];try simp only [↓wR,RA,simprocAttr,TF,ae,h5])
       exact ⟨(i+1,some c.owner),⟨hlt,hstep,fun m hm=>by cases hm;exact hcs.owner⟩,by simp;omega,by (first|rfl|trivial|omega|((try (simp (disch:=omega) only [ag]));(try (simp only [FB]));first|done|rfl|omega)),by (first|rfl|trivial|omega|((try (simp (disch:=omega) only [ag]));(try (simp only [FB]));first|done|rfl|omega))⟩
      ·have hb2:ky z n (some m) c=some m:=by simp [ky,e2,h3,h4,Bk];omega
       rw [hb2] at hstep
       simp only [↓wR,RA,simprocAttr,TF,ae,h5];repeat (simp (disch:=omega) only [ag,bf,bg,be,bb];try simp only [↓wR,RA,simprocAttr,TF,ae,h5])
       exact ⟨(i+1,some m),⟨hlt,hstep,hb⟩,by simp;omega,by (first|rfl|trivial|omega|((try (simp (disch:=omega) only [ag]));(try (simp only [FB]));first|done|rfl|omega)),by (first|rfl|trivial|omega|((try (simp (disch:=omega) only [ag]));(try (simp only [FB]));first|done|rfl|omega))⟩
    ·have hb2:ky z n b c=b:=by simp [ky,h4]
     rw [hb2] at hstep
     simp only [↓wR,RA,simprocAttr,TF,ae,h4];repeat (simp (disch:=omega) only [ag,bf,bg,be,bb];try simp only [↓wR,RA,simprocAttr,TF,ae,h4])
     exact ⟨(i+1,b),⟨hlt,hstep,hb⟩,by simp;omega,by (first|rfl|trivial|omega|((try (simp (disch:=omega) only [ag]));(try (simp only [FB]));first|done|rfl|omega)),by (first|rfl|trivial|omega|((try (simp (disch:=omega) only [ag]));(try (simp only [FB]));first|done|rfl|omega))⟩
   ·have hb2:ky z n b c=b:=by simp [ky,h3]
    rw [hb2] at hstep
    simp only [↓wR,RA,simprocAttr,TF,ae,h3];repeat (simp (disch:=omega) only [ag,bf,bg,be,bb];try simp only [↓wR,RA,simprocAttr,TF,ae,h3])
    exact ⟨(i+1,b),⟨hlt,hstep,hb⟩,by simp;omega,by (first|rfl|trivial|omega|((try (simp (disch:=omega) only [ag]));(try (simp only [FB]));first|done|rfl|omega)),by (first|rfl|trivial|omega|((try (simp (disch:=omega) only [ag]));(try (simp only [FB]));first|done|rfl|omega))⟩
  ·have e2:¬ (c.type.toNat:Int)=2:=by simpa using h2
   have hb2:ky z n b c=b:=by simp [ky,e2]
   rw [hb2] at hstep
   simp only [↓wR,RA,simprocAttr,TF,ae,h2];repeat (simp (disch:=omega) only [ag,bf,bg,be,bb];try simp only [↓wR,RA,simprocAttr,TF,ae,h2])
   exact ⟨(i+1,b),⟨hlt,hstep,hb⟩,by simp;omega,by (first|rfl|trivial|omega|((try (simp (disch:=omega) only [ag]));(try (simp only [FB]));first|done|rfl|omega)),by (first|rfl|trivial|omega|((try (simp (disch:=omega) only [ag]));(try (simp only [FB]));first|done|rfl|omega))⟩
 ·rw [fl h] at hx
  simp only [↓wR,RA,simprocAttr,TF,ae,h]
  cases b with
  |none=>
   have hc0:qe z n=none:=hx
   simp only [↓wR,RA,simprocAttr,TF,ae,Option.isSome_none]
   rw [hc0]
   rfl
  |some m=>
   have hc0:qe z n=some m:=hx
   simp only [↓wR,RA,simprocAttr,TF,ae,qn,hb m rfl]
   rw [hc0]
   rfl
noncomputable def Pd (x:bp × Name × Unit):Option AV:=if bz x.1∧bw x.2.1 then some ((r2 au bo).E true (((qe x.1 x.2.1).getD [],(qe x.1 x.2.1).isSome))) else none
set_option maxRecDepth 2000000 in
theorem ap6 (x:bp × Name × Unit) (r:AV) (h:Pd x=some r):bk PP 25 ((aC br (aC au a0)).E x) r:=by
 by_cases hc:bz x.1∧bw x.2.1
 case neg=>simp only [Pd,if_neg hc] at h;cases h
 simp only [Pd,if_pos hc] at h
 cases h
 exact ay (ar.cons (ak Bq) (ar.cons (ak aij) (ar.cons (ak ri) (ar.nil PP)))) Tryz.func25 (by kernel_rfl) (by kernel_rfl) (by kernel_rfl) (Nat.le_of_ble_eq_true (by kernel_rfl)) (r2 au bo) true (((qe x.1 x.2.1).getD [],(qe x.1 x.2.1).isSome)) (az4 x.1 x.2.1 hc.1 hc.2)
noncomputable abbrev aCp:Nat × Bool × (List AV→M AV):=(25,true,c8 (aC br (aC au a0)) Pd)
def aA3 (z:bp) (n:Name):Bool:=gq n z.origin && (er n z.origin || z.ai.any fun s=>gq s.owner n)
theorem aq9 (t:UInt16):wl PP [] 0 (Tryz.f110.body.getD .skip) (da PP Tryz.f110.results.toList (fun r st=>(r1 bo).get true st.h r=some false)) (cj 0 [cg.val false t]) (bj []):=by
 unfold Tryz.f110
 simp only [↓wR,RA,simprocAttr,TF,ae,bne_self_eq_false]
noncomputable def Wk (x:UInt16 × Unit):Option AV:=some ((r1 bo).E true (false))
set_option maxRecDepth 2000000 in
theorem ah7 (x:UInt16 × Unit) (r:AV) (h:Wk x=some r):bk PP 110 ((aC cg a0).E x) r:=by
 cases h
 exact ay (ar.nil PP) Tryz.func110 (by kernel_rfl) (by kernel_rfl) (by kernel_rfl) (Nat.le_of_ble_eq_true (by kernel_rfl)) (r1 bo) true (false) (aq9 x.1)
noncomputable abbrev ay6:Nat × Bool × (List AV→M AV):=(110,true,c8 (aC cg a0) Wk)
def ti (a b:UInt16):Int:=if (a.toNat:Int)<b.toNat then -1 else if (b.toNat:Int)<a.toNat then 1 else 0
theorem aw5 (a b:UInt16):wl PP [ay6] 0 (Tryz.f59.body.getD .skip) (da PP Tryz.f59.results.toList (fun r st=>(r1 (bh .i64)).get true st.h r=some (ti a b))) (cj 0 [cg.val false a,cg.val false b]) (bj []):=by
 unfold Tryz.f59
 unfold ti
 simp only [↓wR,RA,simprocAttr,TF,ae,Wk]
 rw [aw];refine ⟨fun h=>?_,fun h=>?_⟩
 ·rw [if_pos h]
  simp only [↓wR,RA,simprocAttr,TF,ae,h]
 ·rw [if_neg h]
  simp only [↓wR,RA,simprocAttr,TF,ae,h]
  rw [aw];refine ⟨fun h2=>?_,fun h2=>?_⟩
  ·rw [if_pos h2]
   simp only [↓wR,RA,simprocAttr,TF,ae,h2]
  ·rw [if_neg h2]
   simp only [↓wR,RA,simprocAttr,TF,ae,h2]
noncomputable def Ui (x:UInt16 × UInt16 × Unit):Option AV:=some ((r1 (bh .i64)).E true (ti x.1 x.2.1))
set_option maxRecDepth 2000000 in
theorem V1 (x:UInt16 × UInt16 × Unit) (r:AV) (h:Ui x=some r):bk PP 59 ((aC cg (aC cg a0)).E x) r:=by
 cases h
 exact ay (ar.cons (ak ah7) (ar.nil PP)) Tryz.func59 (by kernel_rfl) (by kernel_rfl) (by kernel_rfl) (Nat.le_of_ble_eq_true (by kernel_rfl)) (r1 (bh .i64)) true (ti x.1 x.2.1) (aw5 x.1 x.2.1)
noncomputable abbrev awf:Nat × Bool × (List AV→M AV):=(59,true,c8 (aC cg (aC cg a0)) Ui)
def zi:List Int→Int
 | []=>0
 |a::r=>if a≠0 then a else zi r
theorem aBl (l:List Int) (hl:l.length≤16777216):wl PP [] 0 (Tryz.f57.body.getD .skip) (da PP Tryz.f57.results.toList (fun r st=>(r1 (bh .i64)).get true st.h r=some (zi l))) (cj 0 [(cq (bh .i64)).val false l]) (bj []):=by
 unfold Tryz.f57
 rw [om]
 simp only [↓wR,RA,simprocAttr,TF,ae]
 refine c7 [3,6,7,8] (fun (i:Nat)=>[.sc (.int .i64 (0)),.vl false 1 (l.map ((bh .i64).val false)),.sc (.int .i64 (l.length)),.sc (.int .i64 (i))]) (fun _=>[]) (fun i=>i≤l.length∧zi l=zi (l.drop i)) (fun i=>l.length - i) 0 ⟨Nat.zero_le _,rfl⟩ (by simp only [↓wR,RA,simprocAttr,TF,ae]<;>rfl) (by simp only [↓wR,RA,simprocAttr,TF,ae]<;>rfl) ?_
 rintro i ⟨hi,hx⟩
 simp only [↓wR,RA,simprocAttr,TF,ae]
 rw [aw];refine ⟨fun h=>?_,fun h=>?_⟩
 ·obtain ⟨c,hc,hd1,hlt⟩:=dx (decide_eq_true h)
  rw [hd1,zi] at hx
  simp only [↓wR,RA,simprocAttr,TF,ae,h,hc]
  rw [c9];refine ⟨fun ⟨h2,e2⟩=>?_,fun ⟨h2,e2⟩=>?_⟩
  ·rw [if_pos e2] at hx
   simp only [↓wR,RA,simprocAttr,TF,ae,h2]
   rw [hx]
  ·rw [if_neg (by omega)] at hx
   simp only [↓wR,RA,simprocAttr,TF,ae,h2];repeat (simp (disch:=omega) only [ag,bf,bg,be,bb];try simp only [↓wR,RA,simprocAttr,TF,ae,h2])
   exact ⟨i+1,⟨hlt,hx⟩,by omega,by (first|rfl|trivial|omega|((try (simp (disch:=omega) only [ag]));(try (simp only [FB]));first|done|rfl|omega))⟩
 ·rw [fl (decide_eq_false h)] at hx
  simp only [↓wR,RA,simprocAttr,TF,ae,h]
  rw [hx];rfl
noncomputable def Wx (x:List Int × Unit):Option AV:=if x.1.length≤16777216 then some ((r1 (bh .i64)).E true (zi x.1)) else none
set_option maxRecDepth 2000000 in
theorem age (x:List Int × Unit) (r:AV) (h:Wx x=some r):bk PP 57 ((aC (cq (bh .i64)) a0).E x) r:=by
 by_cases hc:x.1.length≤16777216
 case neg=>simp only [Wx,if_neg hc] at h;cases h
 simp only [Wx,if_pos hc] at h
 cases h
 exact ay (ar.nil PP) Tryz.func57 (by kernel_rfl) (by kernel_rfl) (by kernel_rfl) (Nat.le_of_ble_eq_true (by kernel_rfl)) (r1 (bh .i64)) true (zi x.1) (aBl x.1 hc)
noncomputable abbrev orC:Nat × Bool × (List AV→M AV):=(57,true,c8 (aC (cq (bh .i64)) a0) Wx)
noncomputable def yt (a b:az):Int:=zi [nr a.owner b.owner,ti a.type b.type]
theorem amx (a b:az) (ha:cd a) (hb:cd b):wl PP [Qg,awf,orC] 0 (Tryz.f122.body.getD .skip) (da PP Tryz.f122.results.toList (fun r st=>(r1 (bh .i64)).get true st.h r=some (yt a b))) (cj 0 [ah.val false a,ah.val false b]) (bj []):=by
 unfold Tryz.f122
 simp only [fu]
 simp only [↓wR,RA,simprocAttr,TF,ae]
 refine ⟨by kernel_rfl,.inl ?_⟩
 simp only [↓wR,RA,simprocAttr,TF,ae,tc,Ui,Wx,ha.owner,hb.owner]
 exact ⟨by kernel_rfl,rfl⟩
noncomputable def zl (x:az × az × Unit):Option AV:=if cd x.1∧cd x.2.1 then some ((r1 (bh .i64)).E true (yt x.1 x.2.1)) else none
set_option maxRecDepth 2000000 in
theorem aal (x:az × az × Unit) (r:AV) (h:zl x=some r):bk PP 122 ((aC ah (aC ah a0)).E x) r:=by
 by_cases hc:cd x.1∧cd x.2.1
 case neg=>simp only [zl,if_neg hc] at h;cases h
 simp only [zl,if_pos hc] at h
 cases h
 exact ay (ar.cons (ak Fq) (ar.cons (ak V1) (ar.cons (ak age) (ar.nil PP)))) Tryz.func122 (by kernel_rfl) (by kernel_rfl) (by kernel_rfl) (Nat.le_of_ble_eq_true (by kernel_rfl)) (r1 (bh .i64)) true (yt x.1 x.2.1) (amx x.1 x.2.1 hc.1 hc.2)
noncomputable abbrev aff:Nat × Bool × (List AV→M AV):=(122,true,c8 (aC ah (aC ah a0)) zl)
noncomputable def o8 (t:UInt16):List bt→Bool
 |a::b::r=>if 0≤vj t a b then false else o8 t (b::r)
 |_=>true
noncomputable def g9 (z:bp) (i:Nat) (s:az):Bool:=
 (match i with|0=>true|k+1=>match z.ai[k]? with|some a=>decide (¬ (yt a s ≥ 0))|none=>true) && o8 s.type s.data
theorem rr (k:Nat):((k:Int)+1).toNat=k+1:=by omega
theorem yx (k:Nat):(0:Int)≤(k:Int)+1:=by omega
theorem Gd (t:UInt16) {l:List bt} {k:Nat} {a b:bt} (ha:l[k]? = some a) (hb:l[k+1]? = some b):o8 t (l.drop k)=if 0≤vj t a b then false else o8 t (l.drop (k+1)):=by
 rw [Ce ha,Ce hb];rfl
theorem Em (t:UInt16) {l:List bt} {k:Nat} (h:l.length≤k+1):o8 t (l.drop k)=true:=by
 have:(l.drop k).length≤1:=by rw [List.length_drop];omega
 match hd:l.drop k with
 | []=>rfl
 | [a]=>rfl
 |a::b::r=>rw [hd] at this;simp at this
theorem aur (l:ud) (i:Nat) (s:az) (hz:bz l.z) (hs:cd s) (hi:i≤l.z.ai.length):wl PP [aff,Cq] 0 (Tryz.f77.body.getD .skip) (da PP Tryz.f77.results.toList (fun r st=>(r1 bo).get true st.h r=some (g9 l.z i s))) (cj 0 [.fy (mu.cells false l),(bh .i64).val false i,ah.val false s]) (bj []):=by
 have hd:=hs.data
 have hn:=hd.len
 have hl:=hz.len
 unfold Tryz.f77
 simp only [fu]
 simp only [↓wR,RA,simprocAttr,TF,ae,Bc]
 refine ⟨by kernel_rfl,.inl ?_⟩
 rw [aw];refine ⟨fun h=>?_,fun h=>?_⟩
 ·cases i with
  |zero=>omega
  |succ k=>
  obtain ⟨a,ha⟩:∃ a,l.z.ai[k]? = some a:=⟨_,List.getElem?_eq_getElem (by omega)⟩
  have has:=hz.set a (List.mem_of_getElem? ha)
  simp only [↓wR,RA,simprocAttr,TF,ae,h,ha,Int.natCast_add,Int.add_sub_cancel,zl,has,hs];repeat (simp (disch:=omega) only [ag,bf,bg,be,bb];try simp only [↓wR,RA,simprocAttr,TF,ae,h,ha,Int.natCast_add,Int.add_sub_cancel,zl,has,hs])
  refine ⟨by kernel_rfl,?_⟩
  rw [aw];refine ⟨fun h2=>?_,fun h2=>?_⟩
  ·have hv:g9 l.z (k+1) s=false:=by simp only [g9,ha];simp [h2]
   simp only [↓wR,RA,simprocAttr,TF,ae,h2]
   rw [hv]
  have hv:g9 l.z (k+1) s=o8 s.type s.data:=by simp only [g9,ha];simp [h2]
  clear ha
  simp only [↓wR,RA,simprocAttr,TF,ae,h2]
  refine c7 [5,7] (fun (k:Nat)=>[.ptr 0 0,.sc (.int .i64 ((k:Int)+1))]) (fun _=>[some (.row [.vl false 1 (s.owner.map (aj.val false)),.sc (.int .u16 s.type.toNat),.sc (.int .u16 s.cls.toNat),.sc (.int .u32 s.ey.toNat),.vl false 4 (s.data.map (aq.val false))] 0 2 31)]) (fun k=>(k=0∨k+1≤s.data.length)∧o8 s.type s.data=o8 s.type (s.data.drop k)) (fun k=>s.data.length - k) 0 ⟨.inl rfl,rfl⟩ (by simp only [↓wR,RA,simprocAttr,TF,ae]<;>rfl) (by simp only [↓wR,RA,simprocAttr,TF,ae]<;>rfl) ?_
  rintro k ⟨hk,hx⟩
  simp only [↓wR,RA,simprocAttr,TF,ae]
  rw [aw];refine ⟨fun h5=>?_,fun h5=>?_⟩
  ·obtain ⟨a,ha⟩:∃ a,s.data[k]? = some a:=⟨_,List.getElem?_eq_getElem (by omega)⟩
   obtain ⟨b,hb⟩:∃ b,s.data[k+1]? = some b:=⟨_,List.getElem?_eq_getElem (by omega)⟩
   rw [Gd _ ha hb] at hx
   have has:=hd.mem a (List.mem_of_getElem? ha)
   have hbs:=hd.mem b (List.mem_of_getElem? hb)
   simp only [↓wR,RA,simprocAttr,TF,ae,h5]
   refine ⟨by kernel_rfl,.inl ?_⟩
   simp only [↓wR,RA,simprocAttr,TF,ae,ha,hb,Int.add_sub_cancel,rr,yx,l8,has,hbs];repeat (simp (disch:=omega) only [ag,bf,bg,be,bb];try simp only [↓wR,RA,simprocAttr,TF,ae,ha,hb,Int.add_sub_cancel,rr,yx,l8,has,hbs])
   refine ⟨by kernel_rfl,?_⟩
   rw [aw];refine ⟨fun h6=>?_,fun h6=>?_⟩
   ·rw [if_pos h6] at hx
    simp only [↓wR,RA,simprocAttr,TF,ae,h6]
    rw [hv,hx]
   ·rw [if_neg h6] at hx
    simp only [↓wR,RA,simprocAttr,TF,ae,h6];repeat (simp (disch:=omega) only [ag,bf,bg,be,bb];try simp only [↓wR,RA,simprocAttr,TF,ae,h6])
    exact ⟨k+1,⟨.inr (by omega),hx⟩,by omega,by (first|rfl|trivial|omega|((try (simp (disch:=omega) only [ag]));(try (simp only [FB]));first|done|rfl|omega))⟩
  ·rw [Em _ (by omega)] at hx
   simp only [↓wR,RA,simprocAttr,TF,ae,h5]
   rw [hv,hx]
 ·simp only [↓wR,RA,simprocAttr,TF,ae,h]
  have hi0:i=0:=by omega
  have hv:g9 l.z i s=o8 s.type s.data:=by rw [hi0];simp [g9]
  refine ⟨by kernel_rfl,?_⟩
  refine c7 [5,7] (fun (k:Nat)=>[.ptr 0 0,.sc (.int .i64 ((k:Int)+1))]) (fun _=>[some (.row [.vl false 1 (s.owner.map (aj.val false)),.sc (.int .u16 s.type.toNat),.sc (.int .u16 s.cls.toNat),.sc (.int .u32 s.ey.toNat),.vl false 4 (s.data.map (aq.val false))] 0 2 31)]) (fun k=>(k=0∨k+1≤s.data.length)∧o8 s.type s.data=o8 s.type (s.data.drop k)) (fun k=>s.data.length - k) 0 ⟨.inl rfl,rfl⟩ (by simp only [↓wR,RA,simprocAttr,TF,ae]<;>rfl) (by simp only [↓wR,RA,simprocAttr,TF,ae]<;>rfl) ?_
  rintro k ⟨hk,hx⟩
  simp only [↓wR,RA,simprocAttr,TF,ae]
  rw [aw];refine ⟨fun h5=>?_,fun h5=>?_⟩
  ·obtain ⟨a,ha⟩:∃ a,s.data[k]? = some a:=⟨_,List.getElem?_eq_getElem (by omega)⟩
   obtain ⟨b,hb⟩:∃ b,s.data[k+1]? = some b:=⟨_,List.getElem?_eq_getElem (by omega)⟩
   rw [Gd _ ha hb] at hx
   have has:=hd.mem a (List.mem_of_getElem? ha)
   have hbs:=hd.mem b (List.mem_of_getElem? hb)
   simp only [↓wR,RA,simprocAttr,TF,ae,h5]
   refine ⟨by kernel_rfl,.inl ?_⟩
   simp only [↓wR,RA,simprocAttr,TF,ae,ha,hb,Int.add_sub_cancel,rr,yx,l8,has,hbs];repeat (simp (disch:=omega) only [ag,bf,bg,be,bb];try simp only [↓wR,RA,simprocAttr,TF,ae,ha,hb,Int.add_sub_cancel,rr,yx,l8,has,hbs])
   refine ⟨by kernel_rfl,?_⟩
   rw [aw];refine ⟨fun h6=>?_,fun h6=>?_⟩
   ·rw [if_pos h6] at hx
    simp only [↓wR,RA,simprocAttr,TF,ae,h6]
    rw [hv,hx]
   ·rw [if_neg h6] at hx
    simp only [↓wR,RA,simprocAttr,TF,ae,h6];repeat (simp (disch:=omega) only [ag,bf,bg,be,bb];try simp only [↓wR,RA,simprocAttr,TF,ae,h6])
    exact ⟨k+1,⟨.inr (by omega),hx⟩,by omega,by (first|rfl|trivial|omega|((try (simp (disch:=omega) only [ag]));(try (simp only [FB]));first|done|rfl|omega))⟩
  ·rw [Em _ (by omega)] at hx
   simp only [↓wR,RA,simprocAttr,TF,ae,h5]
   rw [hv,hx]
theorem ara (l:ud) (i:Int) (s:az) (hz:bz l.z) (hs:cd s) (hi : 0≤i∧i≤l.z.ai.length):wl PP [aff,Cq] 0 (Tryz.f77.body.getD .skip) (da PP Tryz.f77.results.toList (fun r st=>(r1 bo).get true st.h r=some (g9 l.z i.toNat s))) (cj 0 [.fy (mu.cells false l),(bh .i64).val false i,ah.val false s]) (bj []):=by
 have:=aur l i.toNat s hz hs (by omega)
 rwa [Int.toNat_of_nonneg hi.1] at this
noncomputable def Io (x:ud × Int × az × Unit):Option AV:=if (bz x.1.z∧cd x.2.2.1)∧0≤x.2.1∧x.2.1≤x.1.z.ai.length then some ((r1 bo).E true (g9 x.1.z x.2.1.toNat x.2.2.1)) else none
set_option maxRecDepth 2000000 in
theorem P8 (x:ud × Int × az × Unit) (r:AV) (h:Io x=some r):bk PP 77 ((aP mu (aC (bh .i64) (aC ah a0))).E x) r:=by
 by_cases hc:(bz x.1.z∧cd x.2.2.1)∧0≤x.2.1∧x.2.1≤x.1.z.ai.length
 case neg=>simp only [Io,if_neg hc] at h;cases h
 simp only [Io,if_pos hc] at h
 cases h
 exact ay (ar.cons (ak aal) (ar.cons (ak yf) (ar.nil PP))) Tryz.func77 (by kernel_rfl) (by kernel_rfl) (by kernel_rfl) (Nat.le_of_ble_eq_true (by kernel_rfl)) (r1 bo) true (g9 x.1.z x.2.1.toNat x.2.2.1) (ara x.1 x.2.1 x.2.2.1 hc.1.1 hc.1.2 hc.2)
noncomputable abbrev kb:Nat × Bool × (List AV→M AV):=(77,true,c8 (aP mu (aC (bh .i64) (aC ah a0))) Io)
def tf (i:Nat) (n:Name):Nat→List az→Bool
 |_,[]=>false
 |k,o::r=>(decide (¬ (k:Int)=i) && er o.owner n) || tf i n (k+1) r
def jz (z:bp) (i:Nat) (s:az):Bool:=
 if ¬ (s.type.toNat:Int)=5 then true else if ¬ (s.data.length:Int)=1 then false else if er s.owner z.origin=true then false else !tf i s.owner 0 z.ai
theorem aum (l:ud) (i:Nat) (s:az) (hz:bz l.z) (hs:cd s):wl PP [fw] 0 (Tryz.f82.body.getD .skip) (da PP Tryz.f82.results.toList (fun r st=>(r1 bo).get true st.h r=some (jz l.z i s))) (cj 0 [.fy (mu.cells false l),(bh .i64).val false i,ah.val false s]) (bj []):=by
 have hl:=hz.len
 unfold Tryz.f82
 simp only [fu]
 simp only [↓wR,RA,simprocAttr,TF,ae,Bc]
 unfold jz
 rw [c9];refine ⟨fun ⟨h,e⟩=>?_,fun ⟨h,e⟩=>?_⟩
 ·rw [if_pos e]
  simp only [↓wR,RA,simprocAttr,TF,ae,h]
 rw [if_neg (by omega)]
 simp only [↓wR,RA,simprocAttr,TF,ae,h]
 refine ⟨by kernel_rfl,.inl ?_⟩
 rw [c9];refine ⟨fun ⟨h2,e2⟩=>?_,fun ⟨h2,e2⟩=>?_⟩
 ·rw [if_pos e2]
  simp only [↓wR,RA,simprocAttr,TF,ae,h2]
  exact by kernel_rfl
 rw [if_neg (by omega)]
 simp only [↓wR,RA,simprocAttr,TF,ae,h2,jr,hs.owner,hz.origin]
 refine ⟨by kernel_rfl,?_⟩
 rw [di];refine ⟨fun h3=>?_,fun h3=>?_⟩
 ·rw [if_pos h3]
  simp only [↓wR,RA,simprocAttr,TF,ae,h3]
 rw [if_neg (by rw [h3];decide)]
 simp only [↓wR,RA,simprocAttr,TF,ae,h3]
 refine c7 [1,5,30,31,32] (fun (k:Nat)=>[.sc (.int .i64 (i)),.ptr 0 0,.vl false 5 (l.z.ai.map (ah.val false)),.sc (.int .i64 (l.z.ai.length)),.sc (.int .i64 (k))]) (fun _=>[some (.row [.vl false 1 (s.owner.map (aj.val false)),.sc (.int .u16 s.type.toNat),.sc (.int .u16 s.cls.toNat),.sc (.int .u32 s.ey.toNat),.vl false 4 (s.data.map (aq.val false))] 0 2 31)]) (fun k=>k≤l.z.ai.length∧tf i s.owner 0 l.z.ai=tf i s.owner k (l.z.ai.drop k)) (fun k=>l.z.ai.length - k) 0 ⟨Nat.zero_le _,rfl⟩ (by simp only [↓wR,RA,simprocAttr,TF,ae]<;>rfl) (by simp only [↓wR,RA,simprocAttr,TF,ae]<;>rfl) ?_
 rintro k ⟨hk,hx⟩
 simp only [↓wR,RA,simprocAttr,TF,ae]
 rw [aw];refine ⟨fun h4=>?_,fun h4=>?_⟩
 ·obtain ⟨c,hc,hd1,hlt⟩:=dx (decide_eq_true h4)
  rw [hd1,tf] at hx
  have hcs:=hz.set c (List.mem_of_getElem? hc)
  simp only [↓wR,RA,simprocAttr,TF,ae,h4,hc]
  rw [c9];refine ⟨fun ⟨h5,e5⟩=>?_,fun ⟨h5,e5⟩=>?_⟩
  ·rw [decide_eq_true e5,Bool.true_and] at hx
   simp only [↓wR,RA,simprocAttr,TF,ae,h5,jr,hcs.owner,hs.owner]
   rw [di];refine ⟨fun h6=>?_,fun h6=>?_⟩
   ·rw [h6,Bool.true_or] at hx
    simp only [↓wR,RA,simprocAttr,TF,ae,h6]
    rw [hx];rfl
   ·rw [h6,Bool.false_or] at hx
    simp only [↓wR,RA,simprocAttr,TF,ae,h6];repeat (simp (disch:=omega) only [ag,bf,bg,be,bb];try simp only [↓wR,RA,simprocAttr,TF,ae,h6])
    exact ⟨k+1,⟨hlt,hx⟩,by omega,by (first|rfl|trivial|omega|((try (simp (disch:=omega) only [ag]));(try (simp only [FB]));first|done|rfl|omega))⟩
  ·rw [decide_eq_false (by omega),Bool.false_and,Bool.false_or] at hx
   simp only [↓wR,RA,simprocAttr,TF,ae,h5];repeat (simp (disch:=omega) only [ag,bf,bg,be,bb];try simp only [↓wR,RA,simprocAttr,TF,ae,h5])
   exact ⟨k+1,⟨hlt,hx⟩,by omega,by (first|rfl|trivial|omega|((try (simp (disch:=omega) only [ag]));(try (simp only [FB]));first|done|rfl|omega))⟩
 ·rw [fl (decide_eq_false h4),tf] at hx
  simp only [↓wR,RA,simprocAttr,TF,ae,h4]
  rw [hx];rfl
theorem ar2 (l:ud) (i:Int) (s:az) (hz:bz l.z) (hs:cd s) (hi : 0≤i):wl PP [fw] 0 (Tryz.f82.body.getD .skip) (da PP Tryz.f82.results.toList (fun r st=>(r1 bo).get true st.h r=some (jz l.z i.toNat s))) (cj 0 [.fy (mu.cells false l),(bh .i64).val false i,ah.val false s]) (bj []):=by
 have:=aum l i.toNat s hz hs
 rwa [Int.toNat_of_nonneg hi] at this
noncomputable def Er (x:ud × Int × az × Unit):Option AV:=if (bz x.1.z∧cd x.2.2.1)∧0≤x.2.1 then some ((r1 bo).E true (jz x.1.z x.2.1.toNat x.2.2.1)) else none
set_option maxRecDepth 2000000 in
theorem Q8 (x:ud × Int × az × Unit) (r:AV) (h:Er x=some r):bk PP 82 ((aP mu (aC (bh .i64) (aC ah a0))).E x) r:=by
 by_cases hc:(bz x.1.z∧cd x.2.2.1)∧0≤x.2.1
 case neg=>simp only [Er,if_neg hc] at h;cases h
 simp only [Er,if_pos hc] at h
 cases h
 exact ay (ar.cons (ak pv) (ar.nil PP)) Tryz.func82 (by kernel_rfl) (by kernel_rfl) (by kernel_rfl) (Nat.le_of_ble_eq_true (by kernel_rfl)) (r1 bo) true (jz x.1.z x.2.1.toNat x.2.2.1) (ar2 x.1 x.2.1 x.2.2.1 hc.1.1 hc.1.2 hc.2)
noncomputable abbrev ke:Nat × Bool × (List AV→M AV):=(82,true,c8 (aP mu (aC (bh .i64) (aC ah a0))) Er)
def kq (s:az):Bool:=if ¬ (s.cls.toNat:Int)=1 then false else if (s.type.toNat:Int)=0 then false else if (s.type.toNat:Int)=41 then false else !decide ((s.type.toNat:Int)=255)
theorem atb (i:Int) (s:az):wl PP [] 0 (Tryz.f78.body.getD .skip) (da PP Tryz.f78.results.toList (fun r st=>(r1 bo).get true st.h r=some (kq s))) (cj 0 [(bh .i64).val false i,ah.val false s]) (bj []):=by
 unfold Tryz.f78
 simp only [fu]
 simp only [↓wR,RA,simprocAttr,TF,ae]
 unfold kq
 rw [cp];refine ⟨fun ⟨h,e⟩=>?_,fun ⟨h,e⟩=>?_⟩
 ·rw [if_neg (by omega)]
  simp only [↓wR,RA,simprocAttr,TF,ae,h]
  rw [c9];refine ⟨fun ⟨h2,e2⟩=>?_,fun ⟨h2,e2⟩=>?_⟩
  ·rw [if_neg e2]
   simp only [↓wR,RA,simprocAttr,TF,ae,h2]
   rw [c9];refine ⟨fun ⟨h3,e3⟩=>?_,fun ⟨h3,e3⟩=>?_⟩
   ·rw [if_neg e3]
    simp only [↓wR,RA,simprocAttr,TF,ae,h3]
    rfl
   ·rw [if_pos e3]
    simp only [↓wR,RA,simprocAttr,TF,ae,h3]
  ·rw [if_pos e2]
   simp only [↓wR,RA,simprocAttr,TF,ae,h2]
 ·rw [if_pos e]
  simp only [↓wR,RA,simprocAttr,TF,ae,h]
noncomputable def Wa (x:Int × az × Unit):Option AV:=some ((r1 bo).E true (kq x.2.1))
set_option maxRecDepth 2000000 in
theorem P0 (x:Int × az × Unit) (r:AV) (h:Wa x=some r):bk PP 78 ((aC (bh .i64) (aC ah a0)).E x) r:=by
 cases h
 exact ay (ar.nil PP) Tryz.func78 (by kernel_rfl) (by kernel_rfl) (by kernel_rfl) (Nat.le_of_ble_eq_true (by kernel_rfl)) (r1 bo) true (kq x.2.1) (atb x.1 x.2.1)
noncomputable abbrev kg:Nat × Bool × (List AV→M AV):=(78,true,c8 (aC (bh .i64) (aC ah a0)) Wa)
theorem apt (i:Int) (s:az) (z:bp) (hs:cd s) (hz:bz z):wl PP [N3] 0 (Tryz.f79.body.getD .skip) (da PP Tryz.f79.results.toList (fun r st=>(r1 bo).get true st.h r=some (gq s.owner z.origin))) (cj 0 [(bh .i64).val false i,ah.val false s,.fy (br.cells false z)]) (bj []):=by
 unfold Tryz.f79
 simp only [fu]
 simp only [↓wR,RA,simprocAttr,TF,ae,B7,uc,hs.owner,hz.origin]
noncomputable def Fp (x:Int × az × bp × Unit):Option AV:=if cd x.2.1∧bz x.2.2.1 then some ((r1 bo).E true (gq x.2.1.owner x.2.2.1.origin)) else none
set_option maxRecDepth 2000000 in
theorem Lh (x:Int × az × bp × Unit) (r:AV) (h:Fp x=some r):bk PP 79 ((aC (bh .i64) (aC ah (aP br a0))).E x) r:=by
 by_cases hc:cd x.2.1∧bz x.2.2.1
 case neg=>simp only [Fp,if_neg hc] at h;cases h
 simp only [Fp,if_pos hc] at h
 cases h
 exact ay (ar.cons (ak Bq) (ar.nil PP)) Tryz.func79 (by kernel_rfl) (by kernel_rfl) (by kernel_rfl) (Nat.le_of_ble_eq_true (by kernel_rfl)) (r1 bo) true (gq x.2.1.owner x.2.2.1.origin) (apt x.1 x.2.1 x.2.2.1 hc.1 hc.2)
noncomputable abbrev jq:Nat × Bool × (List AV→M AV):=(79,true,c8 (aC (bh .i64) (aC ah (aP br a0))) Fp)
def jy (s:az):Bool:=if ¬ (s.type.toNat:Int)=2 then true else match s.owner[0]? with|none=>true|some a=>!decide (a=Ja)
theorem ayz (i:Int) (s:az) (hs:cd s):wl PP [] 0 (Tryz.f83.body.getD .skip) (da PP Tryz.f83.results.toList (fun r st=>(r1 bo).get true st.h r=some (jy s))) (cj 0 [(bh .i64).val false i,ah.val false s]) (bj []):=by
 have hn:=hs.owner.lt
 unfold Tryz.f83
 simp only [fu]
 simp only [↓wR,RA,simprocAttr,TF,ae]
 unfold jy
 rw [c9];refine ⟨fun ⟨h,e⟩=>?_,fun ⟨h,e⟩=>?_⟩
 ·rw [if_pos e]
  simp only [↓wR,RA,simprocAttr,TF,ae,h]
 rw [if_neg (by omega)]
 simp only [↓wR,RA,simprocAttr,TF,ae,h]
 rw [cp];refine ⟨fun ⟨h2,e2⟩=>?_,fun ⟨h2,e2⟩=>?_⟩
 ·have hnil:s.owner=[]:=List.eq_nil_of_length_eq_zero (by omega)
  have h0:s.owner[0]? = none:=by rw [hnil];rfl
  rw [h0]
  simp only [↓wR,RA,simprocAttr,TF,ae,h2]
 ·obtain ⟨a,ha⟩:∃ a,s.owner[0]? = some a:=⟨_,List.getElem?_eq_getElem (by omega)⟩
  have h0 : 0<s.owner.length:=by omega
  rw [ha]
  simp only [↓wR,RA,simprocAttr,TF,ae,h2,ha,h0]
  rfl
noncomputable def H7 (x:Int × az × Unit):Option AV:=if cd x.2.1 then some ((r1 bo).E true (jy x.2.1)) else none
set_option maxRecDepth 2000000 in
theorem Tq (x:Int × az × Unit) (r:AV) (h:H7 x=some r):bk PP 83 ((aC (bh .i64) (aC ah a0)).E x) r:=by
 by_cases hc:cd x.2.1
 case neg=>simp only [H7,if_neg hc] at h;cases h
 simp only [H7,if_pos hc] at h
 cases h
 exact ay (ar.nil PP) Tryz.func83 (by kernel_rfl) (by kernel_rfl) (by kernel_rfl) (Nat.le_of_ble_eq_true (by kernel_rfl)) (r1 bo) true (jy x.2.1) (ayz x.1 x.2.1 hc)
noncomputable abbrev l5:Nat × Bool × (List AV→M AV):=(83,true,c8 (aC (bh .i64) (aC ah a0)) H7)
def mc (z:bp) (s:az):Bool:=
 match qe z s.owner with
 |none=>true
 |some c=>if (s.type.toNat:Int)=1 then true else if (s.type.toNat:Int)=28 then true else if (s.type.toNat:Int)=2 then er c s.owner else false
theorem azi (i:Int) (s:az) (z:bp) (hs:cd s) (hz:bz z):wl PP [aCp,fw] 0 (Tryz.f84.body.getD .skip) (da PP Tryz.f84.results.toList (fun r st=>(r1 bo).get true st.h r=some (mc z s))) (cj 0 [(bh .i64).val false i,ah.val false s,.fy (br.cells false z)]) (bj []):=by
 have hsm:=Zl (n:=s.owner) hz z.ai none (fun _ h=>h) (fun m hm=>by cases hm)
 change ∀ m,qe z s.owner=some m→bw m at hsm
 unfold Tryz.f84
 simp only [fu]
 unfold mc
 cases hc:qe z s.owner with
 |none=>
  simp only [↓wR,RA,simprocAttr,TF,ae,B7,Pd,hs.owner,hz,hc,Option.isSome_none]
  done
 |some c=>
  simp only [↓wR,RA,simprocAttr,TF,ae,B7,Pd,hs.owner,hz,hc]
  rw [cp];refine ⟨fun ⟨h,e⟩=>?_,fun ⟨h,e⟩=>?_⟩
  ·rw [if_pos e]
   simp only [↓wR,RA,simprocAttr,TF,ae,h]
  rw [if_neg e]
  simp only [↓wR,RA,simprocAttr,TF,ae,h]
  rw [cp];refine ⟨fun ⟨h2,e2⟩=>?_,fun ⟨h2,e2⟩=>?_⟩
  ·rw [if_pos e2]
   simp only [↓wR,RA,simprocAttr,TF,ae,h2]
  rw [if_neg e2]
  simp only [↓wR,RA,simprocAttr,TF,ae,h2]
  rw [cp];refine ⟨fun ⟨h3,e3⟩=>?_,fun ⟨h3,e3⟩=>?_⟩
  ·rw [if_pos e3]
   simp only [↓wR,RA,simprocAttr,TF,ae,h3,jr,hs.owner,hsm c hc]
  ·rw [if_neg e3]
   simp only [↓wR,RA,simprocAttr,TF,ae,h3]
noncomputable def O3 (x:Int × az × bp × Unit):Option AV:=if cd x.2.1∧bz x.2.2.1 then some ((r1 bo).E true (mc x.2.2.1 x.2.1)) else none
set_option maxRecDepth 2000000 in
theorem X4 (x:Int × az × bp × Unit) (r:AV) (h:O3 x=some r):bk PP 84 ((aC (bh .i64) (aC ah (aP br a0))).E x) r:=by
 by_cases hc:cd x.2.1∧bz x.2.2.1
 case neg=>simp only [O3,if_neg hc] at h;cases h
 simp only [O3,if_pos hc] at h
 cases h
 exact ay (ar.cons (ak ap6) (ar.cons (ak pv) (ar.nil PP))) Tryz.func84 (by kernel_rfl) (by kernel_rfl) (by kernel_rfl) (Nat.le_of_ble_eq_true (by kernel_rfl)) (r1 bo) true (mc x.2.2.1 x.2.1) (azi x.1 x.2.1 x.2.2.1 hc.1 hc.2)
noncomputable abbrev pd:Nat × Bool × (List AV→M AV):=(84,true,c8 (aC (bh .i64) (aC ah (aP br a0))) O3)
def nj (z:bp) (p:Nat × Nat) (s:az):Nat × Nat:=
 if (s.type.toNat:Int)=6 then (p.1+1,if (er s.owner z.origin && decide ((s.data.length:Int)=1))=true then p.2+1 else p.2) else p
def gz (z:bp):Nat × Nat:=z.ai.foldl (nj z) (0,0)
theorem aw6 (k:ud) (hz:bz k.z):wl PP [fw] 0 (Tryz.f80.body.getD .skip) (da PP Tryz.f80.results.toList (fun r st=>(r2 (bh .i64) (bh .i64)).get true st.h r=some (((gz k.z).1:Int),((gz k.z).2:Int)))) (cj 0 [.fy (mu.cells false k)]) (bj []):=by
 have hl:=hz.len
 unfold Tryz.f80
 simp only [↓wR,RA,simprocAttr,TF,ae,Bc]
 refine ct (T:=[]) (ar.nil PP) mixed Tryz.func70 rfl (by kernel_rfl) (by kernel_rfl) (by kernel_rfl) (by kernel_rfl) ?_;unfold Tryz.f70
 simp only [↓wR,RA,simprocAttr,TF,ae]
 refine ⟨[1,4,5,11],?_⟩
 have hib:Cw PP 120=some (Tryz.f120.ntmps,Tryz.f120.body.getD .skip):=by kernel_rfl
 simp only [↓wR,RA,simprocAttr,TF,ae,hib]
 refine ⟨by kernel_rfl,fun l=>?_⟩
 unfold Tryz.f120
 simp only [↓wR,RA,simprocAttr,TF,ae]
 refine Gc [0,2,7,8,9] (fun (x:Nat × Nat × Nat)=>[.sc (.func (.yield l) #[] #[]),.ptr 4 0,.vl false 5 (k.z.ai.map (ah.val false)),.sc (.int .i64 (k.z.ai.length)),.sc (.int .i64 (x.1))]) (fun x=>[some (.row [.fy [.vl false 1 (k.z.origin.map (aj.val false)),.vl false 5 (k.z.ai.map (ah.val false)),.sc (.int .i64 (k.e))]] 0 2 109),some (.row [.sc (.int .i64 (x.2.1:Int))] 0 2 3),some (.row [.sc (.int .i64 (x.2.2:Int))] 0 2 3),some (.row [.vl false 1 (k.z.origin.map (aj.val false)),.vl false 5 (k.z.ai.map (ah.val false))] 0 2 41),some (.row [.sc (.int .u16 6)] 0 2 26)]) (fun x=>x.1≤k.z.ai.length∧x.2.1≤x.1∧x.2.2≤x.1∧gz k.z=(k.z.ai.drop x.1).foldl (nj k.z) x.2) (fun x=>k.z.ai.length - x.1) (0,0,0) ⟨Nat.zero_le _,Nat.le_refl _,Nat.le_refl _,rfl⟩ (by simp only [↓wR,RA,simprocAttr,TF,ae]<;>rfl) (by simp only [↓wR,RA,simprocAttr,TF,ae]<;>rfl) ?_
 rintro ⟨i,n,m⟩ ⟨hi,hn,hm,hx⟩
 simp only at hi hn hm hx
 simp only [↓wR,RA,simprocAttr,TF,ae]
 rw [wt];refine ⟨fun h=>?_,fun h=>?_⟩
 ·obtain ⟨c,hc,hd1,hlt⟩:=dx h
  have hcs:=hz.set c (List.mem_of_getElem? hc)
  have hstep:gz k.z=(k.z.ai.drop (i+1)).foldl (nj k.z) (nj k.z (n,m) c):=by rw [hx,hd1];rfl
  simp only [↓wR,RA,simprocAttr,TF,ae,h,hc]
  rw [wt];refine ⟨fun h2=>?_,fun h2=>?_⟩
  ·have e2:(c.type.toNat:Int)=6:=by simpa using h2
   simp only [↓wR,RA,simprocAttr,TF,ae,h2]
   refine zp [0,2,7,8,9,17,19] ?_
   simp only [↓wR,RA,simprocAttr,TF,ae,Af,oe];repeat (simp (disch:=omega) only [ag,bf,bg,be,bb];try simp only [↓wR,RA,simprocAttr,TF,ae,Af,oe])
   refine ⟨by kernel_rfl,.inl ?_⟩
   simp only [↓wR,RA,simprocAttr,TF,ae,jr,hcs.owner,hz.origin]
   have fin:∀ q,nj k.z (n,m) c=(n+1,q)→q≤i+1→gz k.z=(k.z.ai.drop (i+1)).foldl (nj k.z) (n+1,q):=fun q hq _=>by rw [hstep,hq]
   rw [di];refine ⟨fun h3=>?_,fun h3=>?_⟩
   ·simp only [↓wR,RA,simprocAttr,TF,ae,h3]
    refine ⟨by kernel_rfl,?_⟩
    rw [cp];refine ⟨fun ⟨h4,e4⟩=>?_,fun ⟨h4,e4⟩=>?_⟩
    ·have hq:nj k.z (n,m) c=(n+1,m+1):=by simp [nj,e2,h3,e4]
     simp only [↓wR,RA,simprocAttr,TF,ae,h4];repeat (simp (disch:=omega) only [ag,bf,bg,be,bb];try simp only [↓wR,RA,simprocAttr,TF,ae,h4])
     exact ⟨(i+1,n+1,m+1),⟨hlt,by simp;omega,by simp;omega,fin _ hq (by omega)⟩,by simp;omega,by (first|rfl|trivial|omega|((try (simp (disch:=omega) only [ag]));(try (simp only [FB]));first|done|rfl|omega)),by (first|rfl|trivial|omega|((try (simp (disch:=omega) only [ag]));(try (simp only [FB]));first|done|rfl|omega))⟩
    ·have hq:nj k.z (n,m) c=(n+1,m):=by simp [nj,e2,h3,e4]
     simp only [↓wR,RA,simprocAttr,TF,ae,h4];repeat (simp (disch:=omega) only [ag,bf,bg,be,bb];try simp only [↓wR,RA,simprocAttr,TF,ae,h4])
     exact ⟨(i+1,n+1,m),⟨hlt,by simp;omega,by simp;omega,fin _ hq (by omega)⟩,by simp;omega,by (first|rfl|trivial|omega|((try (simp (disch:=omega) only [ag]));(try (simp only [FB]));first|done|rfl|omega)),by (first|rfl|trivial|omega|((try (simp (disch:=omega) only [ag]));(try (simp only [FB]));first|done|rfl|omega))⟩
   ·have hq:nj k.z (n,m) c=(n+1,m):=by simp [nj,e2,h3]
    simp only [↓wR,RA,simprocAttr,TF,ae,h3]
    refine ⟨by kernel_rfl,?_⟩
    exact ⟨(i+1,n+1,m),⟨hlt,by simp;omega,by simp;omega,fin _ hq (by omega)⟩,by simp;omega,by (first|rfl|trivial|omega|((try (simp (disch:=omega) only [ag]));(try (simp only [FB]));first|done|rfl|omega)),by (first|rfl|trivial|omega|((try (simp (disch:=omega) only [ag]));(try (simp only [FB]));first|done|rfl|omega))⟩
  ·have e2:¬ (c.type.toNat:Int)=6:=by simpa using h2
   have hb2:nj k.z (n,m) c=(n,m):=by simp [nj,e2]
   rw [hb2] at hstep
   simp only [↓wR,RA,simprocAttr,TF,ae,h2];repeat (simp (disch:=omega) only [ag,bf,bg,be,bb];try simp only [↓wR,RA,simprocAttr,TF,ae,h2])
   exact ⟨(i+1,n,m),⟨hlt,by simp;omega,by simp;omega,hstep⟩,by simp;omega,by (first|rfl|trivial|omega|((try (simp (disch:=omega) only [ag]));(try (simp only [FB]));first|done|rfl|omega)),by (first|rfl|trivial|omega|((try (simp (disch:=omega) only [ag]));(try (simp only [FB]));first|done|rfl|omega))⟩
 ·rw [fl h] at hx
  simp only [↓wR,RA,simprocAttr,TF,ae,h]
  refine ⟨by kernel_rfl,.inl ?_⟩
  refine ⟨by kernel_rfl,?_⟩
  rw [hx];rfl
noncomputable def M6 (x:ud × Unit):Option AV:=if bz x.1.z then some ((r2 (bh .i64) (bh .i64)).E true ((((gz x.1.z).1:Int),((gz x.1.z).2:Int)))) else none
set_option maxRecDepth 2000000 in
theorem Us (x:ud × Unit) (r:AV) (h:M6 x=some r):bk PP 80 ((aP mu a0).E x) r:=by
 by_cases hc:bz x.1.z
 case neg=>simp only [M6,if_neg hc] at h;cases h
 simp only [M6,if_pos hc] at h
 cases h
 exact ay (ar.cons (ak pv) (ar.nil PP)) Tryz.func80 (by kernel_rfl) (by kernel_rfl) (by kernel_rfl) (Nat.le_of_ble_eq_true (by kernel_rfl)) (r2 (bh .i64) (bh .i64)) true ((((gz x.1.z).1:Int),((gz x.1.z).2:Int))) (aw6 x.1 hc)
noncomputable abbrev lz:Nat × Bool × (List AV→M AV):=(80,true,c8 (aP mu a0) M6)
end Go.Proofs.YtgencolcibpcaaaGreat
end
