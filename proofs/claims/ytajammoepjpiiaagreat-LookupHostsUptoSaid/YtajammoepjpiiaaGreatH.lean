/- Proved: where the arguments are together of bulk at most 1048576, the law LookupHosts returns true (what is true hangs on zones alone), and what it was given reads afterwards as it did before. No other conditions. -/
import Derived.WalkKit
import Derived.CallsIn
import Derived.RangeFuncIn
import Derived.RangeFuncLeaves
import Derived.Orders
import Derived.OrdersIn
import Derived.Scope
import Derived.RangeFuncOwn
import Derived.Stop.SameAnswer
import Derived.Laws.Externs
import Derived.Lib.Bytealg
import Derived.ProofKit
import Derived.OpenShut
import Derived.ReadAgain
import Derived.Deep.Slices
import Derived.ChangeSame
import Derived.Test.YtajammoepjpiiaaGreatProg
import Derived.KernelRfl
import Derived.Test.YtajammoepjpiiaaGreatRows
import Derived.Maps.RangeRun
import Derived.JoinedCond
import Derived.Test.YtajammoepjpiiaaGreatH5
set_option linter.unusedSimpArgs false
set_option linter.unusedVariables false
namespace Go.Vm
noncomputable section
structure XF where
 run:ff→Nat→List AV→M AV
def Lf (P:Program) (L:SL) (rs:List ResultVar):M (List AV):=
 List.rec (motive:=fun _=>M (List AV)) (M.pure []) (fun r _ ih=>
  match r with
  |.tmp t=>ih.bind fun l=>M.pure (lk L t::l)
  |.cell a t=>(jr P t (lk L a)).bind fun v=>ih.bind fun l=>M.pure (v::l)) rs
def af1 (P:Program) (fn:Func) (p:Ex × SL):M AV:=
 match p.1 with
 |.exit _=>M.fail
 |_=>(Lf P p.2 fn.results.toList).bind fun l=>M.pure (pack l)
def aHa (fn:Func) (body:Code):Nat:=aEz fn.results.toList (pj body 0)
def aoy (P:Program) (fn:Func) (body:Code) (ex:Nat):XF:=
 ⟨fun look n args=>bif Nat.ble args.length fn.ntmps then (z4 ((qx P ex body).run look n (vj ex (b9 0 args)))).bind (af1 P fn) else M.fail⟩
def ao7 (P:Program) (f:Nat):Option XF:=
 match P.funcs[f]? with
 |some fn=>
  match fn.body with
  |some body=>bif mc P f && ee fn.ntmps body then some (aoy P fn body (aHa fn body)) else none
  |none=>none
 |none=>none
def Xe (P:Program) (base:ff) (n d:Nat):ff:=
 Nat.rec (motive:=fun _=>ff) base (fun _ ih f=>
  match base f with
  |some p=>some p
  |none=>
   match ao7 P f with
   |some xf=>some (false,fun args=>xf.run ih n args)
   |none=>bif mc P f then none else some (false,fun args=>Ci P f args)) d
theorem aki {P:Program} {t:TypeId} {a:AV} {st bp st2:St} {v:AV} (h:jr P t a bp=some (v,st2)) (hh:bp.h=st.h):(∃ s,jr P t a st=some (v,s))∧st2.h=bp.h∧st2.nx=bp.nx:=by
 unfold jr at h ⊢
 split at h
 ·rename_i id off
  unfold M.bind de at h ⊢
  cases hg:bp.h.get id with
  |none=>rw [hg] at h;cases h
  |some x=>
   rw [hg] at h
   rw [hh] at hg
   rw [hg]
   simp only at h ⊢
   unfold Bn at h ⊢
   cases x with
   |row cells k s et=>
    simp only at h ⊢
    obtain ⟨h1,rfl⟩:=m9 h
    rw [h1]
    exact ⟨⟨_,rfl⟩,rfl,rfl⟩
   |_=>cases h
 ·obtain ⟨h1,rfl⟩:=m9 h
  rw [h1]
  exact ⟨⟨_,rfl⟩,rfl,rfl⟩
 ·cases h
theorem Oj {P:Program} {L:SL} {st:St}:∀ (rs:List ResultVar) (bp st2:St) (l:List AV),Lf P L rs bp=some (l,st2)→bp.h=st.h→r8 P L st rs=some l∧st2.h=bp.h∧st2.nx=bp.nx
 | [],bp,st2,l,h,hh=>by cases h;exact ⟨rfl,rfl,rfl⟩
 |.tmp t::rs,bp,st2,l,h,hh=>by
  change (M.bind (Lf P L rs) fun l=>M.pure (lk L t::l)) bp=_ at h
  unfold M.bind at h
  cases h1:Lf P L rs bp with
  |none=>rw [h1] at h;cases h
  |some q=>
   obtain ⟨l1,s1⟩:=q
   rw [h1] at h
   cases h
   obtain ⟨e1,e2,e3⟩:=Oj rs bp _ l1 h1 hh
   exact ⟨by simp [r8,e1],e2,e3⟩
 |.cell a t::rs,bp,st2,l,h,hh=>by
  change (M.bind (jr P t (lk L a)) fun v=>M.bind (Lf P L rs) fun l=>M.pure (v::l)) bp=_ at h
  unfold M.bind at h
  cases h0:jr P t (lk L a) bp with
  |none=>rw [h0] at h;cases h
  |some q=>
   obtain ⟨v,s0⟩:=q
   rw [h0] at h
   simp only at h
   obtain ⟨⟨s,e0⟩,e1,e2⟩:=aki h0 hh
   cases h1:Lf P L rs s0 with
   |none=>rw [h1] at h;cases h
   |some q=>
    obtain ⟨l1,s1⟩:=q
    rw [h1] at h
    cases h
    obtain ⟨f1,f2,f3⟩:=Oj rs s0 _ l1 h1 (e1.trans hh)
    exact ⟨by simp [r8,e0,f1],f2.trans e1,f3.trans e2⟩
theorem acd {P:Program} {t:TypeId} {a:AV}:ag (jr P t a):=by
 unfold jr Bn
 repeat' (first|exact ag.pure _|exact ag.fail|exact ag.of _|exact ag.de _|(refine ag.bind ?_ fun x=>?_)|split)
theorem Im {P:Program} {L:SL}:∀ rs:List ResultVar,ag (Lf P L rs)
 | []=>ag.pure _
 |.tmp _t::rs=>ag.bind (Im rs) (fun _=>ag.pure _)
 |.cell _a _t::rs=>ag.bind acd (fun _=>ag.bind (Im rs) (fun _=>ag.pure _))
theorem akj {P:Program} {fn:Func} (p:Ex × SL):ag (af1 P fn p):=by
 unfold af1
 split
 ·exact ag.fail
 ·exact ag.bind (Im _) (fun _=>ag.pure _)
theorem aiz {P:Program} {look:ff} (hT:oz P (ud look)) (hl:g7 look) (hm:P.follows .mixedOrders=true) (fn:Func) (body:Code) (ex n:Nat) (args:List AV):ag ((aoy P fn body ex).run look n args):=
 ag.cond (ag.bind ((T9 hT hl hm ex n body).ke _) akj) ag.fail
def Iy (g:Gh) (st:St) (w:World) (n':Nat):gv:={ iw g st.h w st.nx (fun _=>False) (fun o=>n'≤o) with n0:=w.heap.size }
theorem ga.of {g st st' w} (hok:Ok g st.h w) (hfr:np g st st'):ga (Iy g st w st'.nx) g st w:=
 ⟨hok,fun o h1 h2=>hfr o h1 (Nat.lt_of_not_le h2),⟨rfl,fun _o _ho=>rfl,fun _ _ h=>h,fun _ _ _=>rfl,Nat.le_refl _,rfl,rfl,rfl,fun _ _ _=>rfl,fun o _b base ho hi=>.inr (.inr ⟨o,base,ho,hi⟩),fun _ _ h=>.inl h,
  fun _b cs _e fr h=>⟨cs,fr,h,rfl⟩,fun _b l h=>⟨l,h⟩⟩,Nat.le_refl _⟩
theorem ga.back {g st w g' st' w' s'} (h:ga (Iy g st w st'.nx) g' s' w') (hh:s'.h=st'.h) (hfr:np g st st'):Step g st.h w st.nx st'.nx g' st'.h w':=by
 have b:=h.base
 have pins:∀ o,(o<st.nx∨st'.nx≤o)→g'.inj o=g.inj o:=fun o ho=>b.pins o ho
 refine ⟨⟨b.b0,fun o p hp=>?_,b.K,b.cell,b.Bl,b.lp⟩,b.size,b.os,b.tape,b.output,fun c hc hn=>b.frame c hc (fun hO=>?_),fun o ho hr=>?_,fun o c base ho hi=>?_,fun c j hk=>?_⟩
 ·by_cases h1:st.nx≤o∧o<st'.nx
  ·rw [hfr o h1.1 h1.2] at hp;cases hp
  ·rw [pins o (by omega)];exact hp
 ·rcases hO with hO|⟨o,base,h1,h2⟩
  ·exact hO
  ·exact hn o base h1 h2
 ·rw [pins o (by omega)];exact ho
 ·rw [← hh] at ho
  rcases b.own o c base ho hi with h1|h1|h1
  ·exact .inl h1
  ·exact h1.elim
  ·exact .inr h1
 ·rcases b.pw c j hk with h1|h1|h1|h1
  ·exact .inl h1
  ·exact .inr (.inl h1)
  ·exact h1.elim
  ·exact .inr (.inr h1)
theorem axc {P:Program} {look:ff} (hT:oz P (ud look)) (hl:g7 look) (hm:P.follows .mixedOrders=true) {f:Nat} {fn:Func} {body:Code} (hf:P.funcs[f]? = some fn) (hb:fn.body=some body) (he:mc P f=true) (hs:ee fn.ntmps body=true) (ex n:Nat) (args:List AV) :
 Be P f args ((aoy P fn body ex).run look n args):=by
 intro g st w vs r st' hok hfr hlo hrel hm'
 change (bif Nat.ble args.length fn.ntmps then (z4 ((qx P ex body).run look n (vj ex (b9 0 args)))).bind (af1 P fn) else M.fail) st=some (r,st') at hm'
 cases hle:Nat.ble args.length fn.ntmps with
 |false=>rw [hle] at hm';cases hm'
 |true=>
 rw [hle,cond_true] at hm'
 have hle:=Nat.le_of_ble_eq_true hle
 unfold M.bind z4 lg at hm'
 cases hrun:(qx P ex body).run look n (vj ex (b9 0 args)) st with
 |none=>rw [hrun] at hm';cases hm'
 |some q=>
 obtain ⟨e1,L1,bp⟩:=q
 rw [hrun] at hm'
 change af1 P fn (e1,L1) bp=some (r,st') at hm'
 have key:(∀ id,e1 ≠ .exit id)∧∃ l,r8 P L1 bp fn.results.toList=some l∧r=pack l∧bp.h=st'.h∧bp.nx=st'.nx:=by
  have two:((Lf P L1 fn.results.toList).bind fun l=>M.pure (pack l)) bp=some (r,st')→∃ l,r8 P L1 bp fn.results.toList=some l∧r=pack l∧bp.h=st'.h∧bp.nx=st'.nx:=by
   intro h
   unfold M.bind at h
   cases h1:Lf P L1 fn.results.toList bp with
   |none=>rw [h1] at h;cases h
   |some p=>
    obtain ⟨l,s⟩:=p
    rw [h1] at h
    cases h
    obtain ⟨a,b,c⟩:=Oj (st:=bp) _ _ _ _ h1 rfl
    exact ⟨l,a,rfl,b.symm,c.symm⟩
  cases e1 with
  |normal=>exact ⟨(fun _ h=>by cases h),two hm'⟩
  |ret=>exact ⟨(fun _ h=>by cases h),two hm'⟩
  |exit id=>cases hm'
 obtain ⟨hne,l,hres,hr,hh1,hh2⟩:=key
 refine .inr ⟨vn he _ _,zh (ro:=none) (n:=0) (callsIn_of_wp_marks hf hb trivial ?_)⟩
 have hcur:=ga.of hok hfr
 have hx:=Wc ex (b9 0 args)
 have hmono:st.nx≤bp.nx:=(T9 hT hl hm ex n body).le hrun hlo
 have hnear:(Iy g st w st'.nx).wx st.nx bp.nx:=fun o h1 h2 h3=>by
  have:st'.nx≤o:=h3
  omega
 have hrun':=(T9 hT hl hm ex n body).wp none 0 (Iy g st w st'.nx) fn.ntmps (Nat.le_refl _) (.inl rfl) hs _ _ _ g w { tmps:=vs.toArray++Array.replicate (fn.ntmps - vs.toArray.size) undef,defers:=[] } hrun hx.2 hlo hnear hcur ((Al hrel hle).less hx.1) (Marks.nil _ _ _ _)
 refine wpIn_mono hrun' ?_
 rintro exx a1 w1 ⟨e2,L2,st2,g1,rfl,he1,hc1,hr1,hd1⟩
 cases he1
 have fin:bodyPostM (gq none) 0 P fn (fun e w'=>∃ v g',e = .returned v∧Step g st.h w st.nx st'.nx g' st'.h w'∧Ok g' st'.h w'∧Rel g' w' r v) .ret a1 w1:=by
  show LeavesInM (gq none) 0 P fn a1.tmps _ a1.defers .returning w1
  obtain ⟨bs,f1,f2,f3⟩:=hd1
  rw [f1]
  refine Iv (Good:=fun u=>ga (Iy g st w st'.nx) g1 bp u∧(∀ a v,Rel g1 w1 a v→Rel g1 u a v)) (S:=fun b=>w.heap.size≤b∧fv g1 bp.h b) ?_ ?_ bs w1
   ⟨hc1,fun _ _ h=>h⟩ f2 (fun b hb=>⟨⟨(f3 b hb).1,(f3 b hb).2.2⟩,(f3 b hb).2.1⟩)
  ·rintro u b ⟨g2,g3⟩ ⟨hb1,hb2⟩ hb3
   have hput:=Ok.Ib (ds':=none) g2.ok hb3 hb2
   have hst:=Step.afu (ds':=none) hok (hh1 ▸ g2.back hh1 hfr) hb1
   refine ⟨?_,fun a v h=>hput.2 a v (g3 a v h)⟩
   have hc3:ga (Iy g st w st'.nx) g1 { bp with nx:=st'.nx } _:=hcur.step (st':={ bp with nx:=st'.nx }) (fun o a b=>hnear o a (by rw [hh2];exact b)) ⟨(by rw [← hh2];exact hmono),hst⟩ hput.1
   exact ⟨hc3.ok,by rw [hh2];exact hc3.fresh,hc3.base,by rw [hh2];exact hc3.bd⟩
  ·rintro u ⟨g2,g3⟩
   obtain ⟨us,h1,h2⟩:=Y3 (P:=P) g2.ok ⟨hr1.1,fun t=>g3 _ _ (hr1.2 t)⟩ fn.results.toList l hres
   obtain ⟨v,h3,h4⟩:=Yf h1 h2
   exact ⟨v,h3,v,g1,rfl,g2.back hh1 hfr,hh1 ▸ g2.ok,by rw [hr];exact h4⟩
 cases e1 with
 |normal=>exact fin
 |ret=>exact fin
 |exit id=>exact (hne id rfl).elim
theorem ajq {P:Program} (f:Nat) (args:List AV):Be P f args (Ci P f args):=by
 intro g st w vs r st' hok hfree hlow hrel h1
 refine .inl ?_
 unfold Ci at h1
 cases hu:AV.ft.toVs args with
 |none=>simp [hu,M.fail] at h1
 |some us=>
 rw [hu] at h1
 have:=ap3 hrel hu
 subst this
 obtain ⟨h2,rfl⟩:=m9 h1
 cases hev:ev P (callFunc f vs.toArray) with
 |none=>rw [hev] at h2;cases h2
 |some nx=>
 rw [hev] at h2
 cases nx<;>simp [valueOf] at h2
 rename_i v
 subst h2
 exact ⟨v,w,g,Bc _ _ w hev,.refl _ _ _ _ _,hok,.sc v⟩
def lq (P:Program) (look:ff):Prop:=∀ f p,look f=some p→∀ args,Be P f args (p.2 args)
theorem lq.tab {P:Program} {look:ff} (h:lq P look):oz P (ud look):=by
 intro f b m hf args
 rw [Zo] at hf
 cases hb:Nat.blt f K9 with
 |false=>rw [hb] at hf;cases hf
 |true=>
  rw [hb,cond_true] at hf
  exact h f (b,m) hf args
theorem i5 {P:Program} {base:ff} (hb:lq P base) (hl:g7 base) (hm:P.follows .mixedOrders=true) (n:Nat):∀ d,lq P (Xe P base n d)∧g7 (Xe P base n d):=by
 intro d
 induction d with
 |zero=>exact ⟨hb,hl⟩
 |succ d ih=>
  have key:∀ f p,Xe P base n (d+1) f=some p→base f=some p∨∀ args,Be P f args (p.2 args)∧ag (p.2 args):=by
   intro f p h
   change (match base f with
    |some p=>some p
    |none=>
     match ao7 P f with
     |some xf=>some (false,fun args=>xf.run (Xe P base n d) n args)
     |none=>bif mc P f then none else some (false,fun args=>Ci P f args))=some p at h
   cases h0:base f with
   |some p'=>rw [h0] at h;cases h;exact .inl rfl
   |none=>
    rw [h0] at h
    simp only at h
    cases h1:ao7 P f with
    |none=>
     rw [h1] at h
     simp only at h
     cases h2:mc P f with
     |true=>rw [h2] at h;cases h
     |false=>
      rw [h2] at h;cases h
      refine .inr fun args=>⟨ajq f args,?_⟩
      show ag (Ci P f args)
      unfold Ci
      split
      ·exact ag.of _
      ·exact ag.fail
    |some xf=>
     rw [h1] at h
     cases h
     refine .inr fun args=>?_
     unfold ao7 at h1
     cases hf:P.funcs[f]? with
     |none=>rw [hf] at h1;cases h1
     |some fn=>
      rw [hf] at h1
      simp only at h1
      cases hbd:fn.body with
      |none=>rw [hbd] at h1;cases h1
      |some body=>
       rw [hbd] at h1
       simp only at h1
       cases hc:(mc P f && ee fn.ntmps body) with
       |false=>rw [hc] at h1;cases h1
       |true=>
        rw [hc] at h1
        cases h1
        rw [Bool.and_eq_true] at hc
        exact ⟨axc ih.1.tab ih.2 hm hf hbd hc.1 hc.2 _ n args,aiz ih.1.tab ih.2 hm fn body _ n args⟩
  refine ⟨fun f p h args=>?_,fun f p h args=>?_⟩
  ·rcases key f p h with h1|h1
   ·exact hb f p h1 args
   ·exact (h1 args).1
  ·rcases key f p h with h1|h1
   ·exact hl f p h1 args
   ·exact (h1 args).2
theorem Dt {P:Program} (w:World):∀ (ns:List Int) (a:Addr) (i:Nat) (acc:ByteArray),(∀ (j:Nat) x,ns[j]? = some x→(load (a.add (i+j))).run P w = .ok (.int .u8 x) w) →
 (Extern.Bytes.loadBytes (a.add i) ns.length acc).run P w = .ok ⟨acc.data++(ns.map fun n=>UInt8.ofNat n.toNat).toArray⟩ w
 | [],a,i,acc,_=>by simp [Extern.Bytes.loadBytes]
 |x::l,a,i,acc,h=>by
  have h0:=h 0 x rfl
  rw [Nat.add_zero] at h0
  have e:(a.add i).add 1=a.add (i+1):=by
   unfold Addr.add
   by_cases hj:i=0
   ·subst hj;simp
   ·simp [hj];omega
  have ih:=Dt (P:=P) w l a (i+1) (acc.push x.toNat.toUInt8) (fun j y hy=>by
   have:=h (j+1) y (by simpa using hy)
   rw [show i+1+j=i+(j+1) from by omega];exact this)
  simp only [List.length_cons,Extern.Bytes.loadBytes,Sem.run_bind,h0,Result.andThen]
  rw [e,ih]
  congr 1
  apply ByteArray.ext
  simp [ByteArray.push,Nat.toUInt8]
theorem Ym {l:List Int} {l':List Value} (h:l'=l.map (Value.int .u8)) (j:Nat) (x:Int) (hx:l[j]? = some x):l'[j]? = some (.int .u8 x):=by rw [h,List.getElem?_map,hx];rfl
theorem Dk {P:Program} {g st bp w} {a:AV} {v:Value} {l:List AV} {bs:List UInt8} (hok:Ok g st.h w) (hr:Rel g w a v) (h:cellsIn 1 a st=some (l,bp)) (hb:bytesOf l=some bs) :
 (Extern.Bytes.bytesOf v).run P w = .ok ⟨bs.toArray⟩ w:=by
 obtain ⟨_,_,n,news,hsrc,hrl⟩:=x8 (P:=P) hok hr h
 obtain ⟨ns,e1,e2⟩:=Ef _ _ _ hrl hb
 obtain ⟨r1,r2⟩:=hsrc.run w rfl
 cases v with
 |slice p len cap=>
  have hn:n=len:=by simp [Builtin.lenOf] at r1;exact r1.symm
  subst hn
  cases p with
  |none=>
   have:news=[]:=by simpa [Builtin.firstCells] using r2
   subst this
   have:ns=[]:=by simpa using e1.symm
   subst this
   subst e2
   rfl
  |some a=>
   simp only [Builtin.firstCells,Nat.mul_one] at r2
   unfold loadCells at r2
   obtain ⟨l',q1,q2,q3⟩:=loadCellsFrom_ok a n 0 #[] _ _ r2
   have hl':l'=news:=by simpa using q2.symm
   subst hl'
   have hlen:ns.length=n:=by rw [← q1,e1,List.length_map]
   have:=Dt (P:=P) w ns a 0 .empty (fun j x hx=>by
    exact q3 j _ (Ym e1 j x hx))
   rw [hlen] at this
   have e0:a.add 0=a:=by simp [Addr.add]
   rw [e0] at this
   show (Extern.Bytes.loadBytes a n .empty).run P w=_
   rw [this,e2]
   congr 2
   simp [ByteArray.empty,ByteArray.emptyWithCapacity]
   rfl
 |string s=>
  have hn:n=s.size:=by simp [Builtin.lenOf] at r1;exact r1.symm
  subst hn
  simp only [Builtin.firstCells,Sem.run_pure,Result.ok.injEq,and_true] at r2
  have h1:=congrArg Array.toList r2
  rw [e1] at h1
  show Result.ok s w=_
  congr 1
  apply ByteArray.ext
  apply Array.ext'
  rw [e2]
  have h2:=congrArg (List.map fun v:Value=>match v with|.int _ n=>UInt8.ofNat n.toNat|_=>0) h1
  simp only [List.map_map,Array.toList_map] at h2
  have h3:(s.extract 0 s.size).data.toList=s.data.toList:=by simp
  rw [h3] at h2
  have h4:(List.map ((fun v:Value=>match v with|.int _ n=>UInt8.ofNat n.toNat|_=>0) ∘ fun b:UInt8=>Value.int .u8 (b.toNat:Int)) s.data.toList)=s.data.toList:=by
   rw [show ((fun v:Value=>match v with|.int _ n=>UInt8.ofNat n.toNat|_=>0) ∘ fun b:UInt8=>Value.int .u8 (b.toNat:Int))=id from by funext b;simp]
   simp
  rw [h4] at h2
  rw [h2]
  simp
 |_=>simp [Builtin.lenOf,stuck] at r1
def q9 (args:List AV):M AV:=
 match args with
 | [a]=>.pure a
 |_=>.fail
def fm (args:List AV):M AV:=
 match args with
 | [a,b]=>(cellsIn 1 a).bind fun x=>(cellsIn 1 b).bind fun y=>
  match bytesOf x with
  |some x=>
   match bytesOf y with
   |some y=>.pure (.sc (goInt (Lib.compareBytes x y)))
   |none=>.fail
  |none=>.fail
 |_=>.fail
def ef {α:Type} (m:M α):Prop:=∀ st v bp,m st=some (v,bp)→bp.h=st.h∧bp.nx=st.nx
theorem ef.pure {α:Type} (a : α):ef (M.pure a):=fun st v bp h=>by cases h;exact ⟨rfl,rfl⟩
theorem ef.fail {α:Type}:ef (M.fail:M α):=fun st v bp h=>by cases h
theorem ef.bind {α β:Type} {m:M α} {f : α→M β} (hm:ef m) (h:∀ x,ef (f x)):ef (m.bind f):=fun st v bp hb=>by
 obtain ⟨x,s1,h1,h2⟩:=bind_some hb
 have h3:=hm _ _ _ h1
 have h4:=h x _ _ _ h2
 exact ⟨h4.1.trans h3.1,h4.2.trans h3.2⟩
theorem ef.de (id:Nat):ef (Vm.de id):=fun _st _v _st1 h=>(gh h).2
theorem ef.cond {α:Type} {b:Bool} {x y:M α} (hx:ef x) (hy:ef y):ef (bif b then x else y):=by cases b<;>assumption
theorem ef.cellsIn (sz:Nat) (v:AV):ef (Vm.cellsIn sz v):=by
 unfold Vm.cellsIn ze
 repeat' (first|exact ef.pure _|exact ef.fail|apply ef.cond|(refine ef.bind (ef.de _) fun x=>?_)|split)
theorem j6 (args:List AV):ag (q9 args):=by
 unfold q9;split
 ·exact ag.pure _
 ·exact ag.fail
theorem i4 (args:List AV):ag (fm args):=by
 unfold fm;split
 ·exact ag.bind (ag.cellsIn _ _) fun x=>ag.bind (ag.cellsIn _ _) fun y=>by
   split
   ·split
    ·exact ag.pure _
    ·exact ag.fail
   ·exact ag.fail
 ·exact ag.fail
theorem Cd (args:List AV):ef (fm args):=by
 unfold fm;split
 ·exact ef.bind (ef.cellsIn _ _) fun x=>ef.bind (ef.cellsIn _ _) fun y=>by
   split
   ·split
    ·exact ef.pure _
    ·exact ef.fail
   ·exact ef.fail
 ·exact ef.fail
theorem nh {P:Program} {f:Nat} {fn:Func} (hf:P.funcs[f]? = some fn) (h1:(fn.name == "runtime.NumGoroutine")=false) (h2:fn.body.isNone=true) (h3:Extern.findNext fn=none) (h4:Extern.find fn=some Extern.AbiNoEscape.same) (args:List AV) :
 Be P f args (q9 args):=by
 intro g st w vs r st' hok hfree hlow hrel hm
 refine .inl ?_
 unfold q9 at hm
 split at hm
 ·rename_i a
  cases hm
  obtain ⟨v,rfl,hv⟩:=B2 hrel
  refine ⟨v,w,g,?_,.refl _ _ _ _ _,hok,hv⟩
  rw [run_callFunc_extern hf h1 h2 h3 h4]
  rfl
 ·cases hm
theorem i6 {P:Program} {f:Nat} {fn:Func} (hf:P.funcs[f]? = some fn) (h1:(fn.name == "runtime.NumGoroutine")=false) (h2:fn.body.isNone=true) (h3:Extern.findNext fn=none) (h4:Extern.find fn=some Extern.BytealgCompare.compare) (args:List AV) :
 Be P f args (fm args):=by
 intro g st w vs r st' hok hfree hlow hrel hm
 refine .inl ?_
 have hst:=Cd _ _ _ _ hm
 unfold fm at hm
 split at hm
 ·rename_i a c
  obtain ⟨x,s1,e1,hm⟩:=bind_some hm
  obtain ⟨y,s2,e2,hm⟩:=bind_some hm
  cases hx:bytesOf x with
  |none=>rw [hx] at hm;cases hm
  |some bx=>
  cases hy:bytesOf y with
  |none=>rw [hx,hy] at hm;cases hm
  |some yb=>
  rw [hx,hy] at hm
  cases hm
  have hh:=ef.cellsIn _ _ _ _ _ e1
  match vs,hrel with
  | [v,u],hrel=>
   have r1:=Dk (P:=P) hok hrel.head e1 hx
   have r2:=Dk (P:=P) (st:=s1) (by rw [hh.1];exact hok) hrel.tail.head e2 hy
   refine ⟨goInt (Lib.compareBytes bx yb),w,g,?_,?_,?_,.sc _⟩
   ·rw [run_callFunc_extern hf h1 h2 h3 h4]
    have:(Extern.BytealgCompare.compare #[v,u]).run P w = .ok (goInt (Lib.compareBytes bx yb)) w:=by
     change Sem.run P (do pure (goInt (Extern.BytealgCompare.cmp (← Extern.Bytes.bytesOf v) (← Extern.Bytes.bytesOf u)))) w=_
     simp only [Sem.run_bind,r1,r2,Result.andThen,Sem.run_pure]
     rw [Lib.cmp_eq]
    show ((Extern.BytealgCompare.compare #[v,u]).run P w).andThen _=_
    rw [this]
    rfl
   ·rw [hst.1,hst.2];exact .refl _ _ _ _ _
   ·rw [hst.1];exact hok
  | [],hrel=>have:=hrel.1;simp at this
  | [v],hrel=>have:=hrel.1;simp at this
  |_::_::_::_,hrel=>have:=hrel.1;simp at this
 ·cases hm
def mi (l:List (Nat × Bool × (List AV→M AV))):ff:=fun f=>List.rec (motive:=fun _=>Option (Bool × (List AV→M AV))) none (fun p _ ih=>bif Nat.beq p.1 f then some p.2 else ih) l
theorem mo {P:Program}:lq P (mi [])∧g7 (mi []):=⟨(fun f p h=>by cases h),(fun f p h=>by cases h)⟩
theorem du {P:Program} {f:Nat} {b:Bool} {m:List AV→M AV} {l:List (Nat × Bool × (List AV→M AV))} (h1:∀ args,Be P f args (m args)) (h2:∀ args,ag (m args)) (h:lq P (mi l)∧g7 (mi l)) :
 lq P (mi ((f,b,m)::l))∧g7 (mi ((f,b,m)::l)):=by
 have key:∀ g p,mi ((f,b,m)::l) g=some p→(g=f∧p=(b,m))∨mi l g=some p:=by
  intro g p hp
  change (bif Nat.beq f g then some (b,m) else mi l g)=some p at hp
  by_cases e:f=g
  ·subst e
   rw [Nat.beq_refl,cond_true] at hp
   cases hp
   exact .inl ⟨rfl,rfl⟩
  ·rw [nk e,cond_false] at hp
   exact .inr hp
 refine ⟨fun g p hp args=>?_,fun g p hp args=>?_⟩
 ·rcases key g p hp with ⟨rfl,rfl⟩|hp
  ·exact h1 args
  ·exact h.1 g p hp args
 ·rcases key g p hp with ⟨rfl,rfl⟩|hp
  ·exact h2 args
  ·exact h.2 g p hp args
theorem G6 {P:Program} {look:ff} (hl:lq P look) {f:Nat} {p:Bool × (List AV→M AV)} (hp:look f=some p) (he:mc P f=true) {args:List AV} {ρ:Type} (R:RC ρ) (fr:Bool) (x : ρ) {r:AV} {st':St} (h:p.2 args (bq [])=some (r,st')) (hx:R.get fr st'.h r=some x) :
 bc P f args (R.E fr x):=by
 intro K w vs hK hrel
 have hok:Ok (gK w.heap.size K) (bq []).h w:=⟨Nat.le_refl _,fun o x hx=>by simp [bq,qv,Tr.get_nil] at hx,fun o o' x x' b base base' _ hx=>by simp [bq,qv,Tr.get_nil] at hx,hK⟩
 have fin:∀ v w' g',Step (gK w.heap.size K) (bq []).h w (bq []).nx st'.nx g' st'.h w'→Ok g' st'.h w'→Rel g' w' r v→Ap w w'∧Rel (gK w.heap.size (ae6 K w w')) w' (R.E fr x) v:=by
  intro v w' g' s hok' hr
  have hnone:∀ o base b,(Tr.get (bq []).h o).isSome=true→(gK w.heap.size K).inj o≠some (b,base):=fun o base b ho=>by simp [bq,qv,Tr.get_nil] at ho
  refine ⟨⟨s.size,fun b hb=>s.frame b hb (fun o base ho=>hnone o base b ho),s.os,s.tape,s.output⟩,?_⟩
  refine R.ok hok' ⟨fun b j hk=>?_,fun o cells k e' e ho b base hi j hj=>?_⟩ (fun _=>?_) hr hx
  ·rcases s.pw b j hk with h5|h5|⟨o,base,h5,_⟩
   ·exact .inl h5
   ·exact .inr ⟨h5,hok'.K b j hk⟩
   ·simp [bq,qv,Tr.get_nil] at h5
  ·obtain ⟨b',base',h5,_,h6⟩:=hok'.obj o _ ho
   rw [hi] at h5;cases h5
   rcases s.own o b base (by rw [ho];rfl) hi with h7|⟨o',base',h7,_⟩
   ·exact .inr ⟨h7,h6.lt⟩
   ·simp [bq,qv,Tr.get_nil] at h7
  ·exact Nat.le_of_eq s.ext.b0.symm
 rcases hl f p hp args (gK w.heap.size K) (bq []) w vs r st' hok (fun _ _ _=>rfl) (fun o x hx=>by simp [bq,qv,Tr.get_nil] at hx) hrel h with ⟨v,w',g',q1,q2,q3,q4⟩|⟨q1,q2⟩
 ·rw [vn he] at q1;cases q1
 ·refine .inr ⟨q1,q2.mono ?_⟩
  rintro e w' ⟨v,g',rfl,p2,p3,p4⟩
  exact ⟨v,rfl,fin v w' g' p2 p3 p4⟩
end
end Go.Vm
namespace Go.Vm
noncomputable section
def av6 (c:AV):Bool:=
 match c with
 |.sc v=>match v with
  |.agg _=>false
  |_=>true
 |.agg _=>false
 |_=>true
def F2 (sz:Nat):Nat→List AV→List AV
 |0,_=>[]
 |n+1,l=>.agg (l.take sz)::F2 sz n (l.drop sz)
def Pc (sz n:Nat) (l:List AV):Option (List AV):=bif Nat.beq sz 1 then (bif l.all av6 then some l else none) else some (F2 sz n l)
def Cp (f:AV→M AV) (l:List AV):M (List AV):=List.rec (motive:=fun _=>M (List AV)) (M.pure []) (fun a _ ih=>(f a).bind fun x=>ih.bind fun l=>M.pure (x::l)) l
def Zd (fr:Bool) (r:List AV→M (List AV)) (off len sz:Nat) (x:bh):M AV:=
 match x with
 |.row cells _ _ _=>bif Nat.ble (off+len * sz) cells.length then (r ((cells.drop off).take (len * sz))).bind fun l=>(M.of (Pc sz len l)).bind fun es=>M.pure (.vl fr sz es) else M.fail
 |_=>M.fail
def adl (fr:Bool) (f:AV→M AV) (a:AV):M AV:=
 match a with
 |.sc _=>M.pure a
 |.agg l=>(Cp f l).bind fun l=>M.pure (.agg l)
 |.gb l=>(Cp f l).bind fun l=>M.pure (.gb l)
 |.vl loc sz es=>bif loc || !fr then (Cp f es).bind fun l=>M.pure (.vl fr sz l) else M.fail
 |.sl o off len sz=>(de o).bind (Zd fr (Cp f) off len sz)
 |.ez=>M.pure a
 |_=>M.fail
def deep (fr:Bool) (n:Nat):AV→M AV:=Nat.rec (motive:=fun _=>AV→M AV) (fun _=>M.fail) (fun _ ih=>adl fr ih) n
theorem Wq {c:AV} (h:av6 c=true):c.cells=[c]:=by
 cases c with
 |sc v=>cases v<;>first|rfl|cases h
 |agg l=>cases h
 |_=>rfl
theorem Pm {sz:Nat}:∀ (n:Nat) (l:List AV),l.length=n * sz→(F2 sz n l).flatMap AV.cells=l∧(F2 sz n l).length=n∧∀ e ∈ F2 sz n l,e.cells.length=sz
 |0,l,h=>by
  have:l=[]:=List.eq_nil_of_length_eq_zero (by simpa using h)
  subst this
  exact ⟨rfl,rfl,fun e he=>by cases he⟩
 |n+1,l,h=>by
  rw [Nat.succ_mul] at h
  obtain ⟨h1,h2,h3⟩:=Pm (sz:=sz) n (l.drop sz) (by rw [List.length_drop];omega)
  refine ⟨?_,by simp [F2,h2],fun e he=>?_⟩
  ·rw [F2,List.flatMap_cons,h1]
   show l.take sz++l.drop sz=l
   exact List.take_append_drop sz l
  ·rcases List.mem_cons.1 he with rfl|he
   ·show (l.take sz).length=sz
    rw [List.length_take];omega
   ·exact h3 e he
theorem af5 {sz n:Nat} {l es:List AV} (hl:l.length=n * sz) (h:Pc sz n l=some es):es.flatMap AV.cells=l∧es.length=n∧∀ e ∈ es,e.cells.length=sz:=by
 unfold Pc at h
 cases hb:Nat.beq sz 1 with
 |false=>rw [hb] at h;cases h;exact Pm n l hl
 |true=>
  rw [hb,cond_true] at h
  have h1:=Nat.eq_of_beq_eq_true hb
  subst h1
  cases ha:l.all av6 with
  |false=>rw [ha] at h;cases h
  |true=>
   rw [ha] at h
   cases h
   rw [List.all_eq_true] at ha
   refine ⟨?_,by omega,fun e he=>by rw [Wq (ha e he)];rfl⟩
   clear hl
   induction l with
   |nil=>rfl
   |cons a l ih=>rw [List.flatMap_cons,Wq (ha a (by simp)),ih (fun x hx=>ha x (by simp [hx]))];rfl
structure Hm (fr:Bool) (h:Tr bh) (a x:AV):Prop where
 len:x.cells.length=a.cells.length
 rel:∀ {g w K b0 v},Ok g h w→s6 g h K→(fr=true→b0≤g.b0)→Rel g w a v→Rel (gK b0 K) w x v
 cel:∀ {g w K b0 vs},Ok g h w→s6 g h K→(fr=true→b0≤g.b0)→bu g w a.cells vs→bu (gK b0 K) w x.cells vs
structure Hj (fr:Bool) (h:Tr bh) (l l':List AV):Prop where
 len:l'.length=l.length
 size:∀ sz,(∀ e ∈ l,e.cells.length=sz)→∀ e ∈ l',e.cells.length=sz
 rel:∀ {g w K b0 vs},Ok g h w→s6 g h K→(fr=true→b0≤g.b0)→bu g w l vs→bu (gK b0 K) w l' vs
 cel:∀ {g w K b0 vs},Ok g h w→s6 g h K→(fr=true→b0≤g.b0)→bu g w (l.flatMap AV.cells) vs→bu (gK b0 K) w (l'.flatMap AV.cells) vs
theorem Hj.nil {fr h}:Hj fr h [] [] where
 len:=rfl
 size _ _ e he:=by cases he
 rel _ _ _ hr:=⟨hr.1,fun i a v ha=>by simp at ha⟩
 cel _ _ _ hr:=⟨hr.1,fun i a v ha=>by simp at ha⟩
theorem aAu {g w a l vs} (h:bu g w (a::l) vs):∃ v us,vs=v::us∧Rel g w a v∧bu g w l us:=by
 match vs,h with
 | [],h=>have:=h.1;simp at this
 |v::us,h=>exact ⟨v,us,rfl,h.head,h.tail⟩
theorem Hj.cons {fr h a x l l'} (h1:Hm fr h a x) (h2:Hj fr h l l'):Hj fr h (a::l) (x::l') where
 len:=by simp [h2.len]
 size sz hs e he:=by
  rcases List.mem_cons.1 he with rfl|he
  ·rw [h1.len];exact hs a (by simp)
  ·exact h2.size sz (fun e he=>hs e (by simp [he])) e he
 rel hok hl hb hr:=by
  obtain ⟨v,us,rfl,q1,q2⟩:=aAu hr
  exact bu.cons (h1.rel hok hl hb q1) (h2.rel hok hl hb q2)
 cel hok hl hb hr:=by
  rw [List.flatMap_cons] at hr ⊢
  obtain ⟨u,u',rfl,q1,q2⟩:=hr.split
  exact (h1.cel hok hl hb q1).append (h2.cel hok hl hb q2)
theorem Hm.one {fr h a x} (ha:a.cells=[a]) (hx:x.cells=[x]) (rel:∀ {g w K b0 v},Ok g h w→s6 g h K→(fr=true→b0≤g.b0)→Rel g w a v→Rel (gK b0 K) w x v):Hm fr h a x where
 len:=by rw [ha,hx];rfl
 rel:=rel
 cel hok hl hb hr:=by
  rw [ha] at hr
  rw [hx]
  obtain ⟨v,rfl,h1⟩:=B2 hr
  exact bu.one (rel hok hl hb h1)
theorem ady {fr b0 K w sz} {es:List AV} {vs:List Value} {b off cap:Nat} (hr:bu (gK b0 K) w (es.flatMap AV.cells) vs) (hsz:∀ e ∈ es,e.cells.length=sz) (hcap:es.length≤cap) (hb:fr=true→b0≤b)
 (hc:∀ j v,vs[j]? = some v→K b (off+j)∧w.cell? ⟨b,off+j,none⟩=some v):Rel (gK b0 K) w (.vl fr sz es) (.slice (some ⟨b,off,none⟩) es.length cap):=
 Rel.vl (g:=gK b0 K) (w:=w) fr sz es b off cap (fun j=>vs.getD j undef) hsz hb hcap
  (fun j a ha=>by
   obtain ⟨v,hv,_⟩:=hr.get ha
   have:=hc j v hv
   exact ⟨this.1,by rw [this.2,List.getD_eq_getElem?_getD,hv];rfl⟩)
  (fun j a ha=>by
   obtain ⟨v,hv,hrel⟩:=hr.get ha
   show Rel _ _ a (vs.getD j undef)
   rw [List.getD_eq_getElem?_getD,hv];exact hrel)
theorem azp {fr h loc sz} {es es':List AV} (hd:Hj fr h es es') (hb:(loc || !fr)=true):Hm fr h (.vl loc sz es) (.vl fr sz es'):=by
 refine Hm.one rfl rfl fun {g w K b0 v} hok hl hb0 hr=>?_
 cases hr with
 |kj=>have:=hd.len;rw [List.eq_nil_of_length_eq_zero this];exact .kj _ _
 |uy _ _ a=>have:=hd.len;rw [List.eq_nil_of_length_eq_zero this];exact .uy _ _ a
 |vl _ _ _ b off cap c hsz hloc hcap hc hrel=>
  have hloc':fr=true→b0≤b:=fun e=>by
   rw [e] at hb
   simp at hb
   have:=hloc hb
   have:=hb0 e
   omega
  have hlist:bu g w (es.flatMap AV.cells) (jf 0 (es.flatMap AV.cells).length c):=by
   refine ⟨by simp [jf],fun i a v ha hv=>?_⟩
   have hi:=(List.getElem?_eq_some_iff.1 ha).1
   simp only [jf,List.getElem?_map,List.getElem?_range hi,Option.map_some,Option.some.injEq,Nat.zero_add] at hv
   subst hv
   exact hrel i a ha
  have q1:=hd.cel (b0:=b0) hok hl hb0 hlist
  rw [← hd.len]
  refine ady q1 (hd.size sz hsz) (by rw [hd.len];exact hcap) hloc' (fun j v hv=>?_)
  have hj:j<(es.flatMap AV.cells).length:=by
   have:=(List.getElem?_eq_some_iff.1 hv).1;simpa [jf] using this
  simp only [jf,List.getElem?_map,List.getElem?_range hj,Option.map_some,Option.some.injEq,Nat.zero_add] at hv
  subst hv
  have:=hc j _ (List.getElem?_eq_getElem hj)
  exact ⟨hl.K _ _ this.1,this.2⟩
theorem azx {fr h o off len sz k st et} {cells l es:List AV} (ho:h.get o=some (.row cells k st et)) (hle:off+len * sz≤cells.length) (hd:Hj fr h ((cells.drop off).take (len * sz)) l) (he:Pc sz len l=some es):Hm fr h (.sl o off len sz) (.vl fr sz es):=by
 have hlen:((cells.drop off).take (len * sz)).length=len * sz:=by simp;omega
 obtain ⟨e1,e2,e3⟩:=af5 (hd.len.trans hlen) he
 refine Hm.one rfl rfl fun {g w K b0 v} hok hl hb0 hr=>?_
 cases hr with
 |w6 _ _ _ a=>rw [List.eq_nil_of_length_eq_zero e2];exact .uy _ _ a
 |xg _ _ _=>rw [List.eq_nil_of_length_eq_zero e2];exact .kj _ _
 |sl _ _ _ _ b base cap hi hcap hm hroom=>
  obtain ⟨b',base',hi',hbb,hrow⟩:=hok.obj o _ ho
  rw [hi] at hi';cases hi'
  obtain ⟨cs,fz,r1,r2,r3,_⟩:=hrow
  have hpart:bu g w ((cells.drop off).take (len * sz)) (jf (base+off) (len * sz) (fun j=>cs.getD j undef)):=by
   refine ⟨by simp [jf];omega,fun i a v ha hv=>?_⟩
   rw [List.getElem?_take,List.getElem?_drop] at ha
   by_cases hil:i<len * sz
   ·rw [if_pos hil] at ha
    obtain ⟨u,hu,hrel⟩:=r3 _ a ha
    simp only [jf,List.getElem?_map,List.getElem?_range hil,Option.map_some,Option.some.injEq] at hv
    subst hv
    rw [Array.getD_eq_getD_getElem?,Nat.add_assoc,hu]
    exact hrel
   ·rw [if_neg hil] at ha;cases ha
  have q1:=hd.rel (b0:=b0) hok hl hb0 hpart
  rw [← e1] at q1
  rw [← e2]
  refine ady q1 e3 (by omega) (fun e=>by have:=hb0 e;omega) (fun j v hv=>?_)
  have hj:j<len * sz:=by
   have:=(List.getElem?_eq_some_iff.1 hv).1;simpa [jf] using this
  simp only [jf,List.getElem?_map,List.getElem?_range hj,Option.map_some,Option.some.injEq] at hv
  obtain ⟨u,hu,_⟩:=r3 (off+j) (cells[off+j]'(by omega)) (by simp)
  have hrows:=hl.rows o cells k st et ho b base hi (off+j) (by omega)
  rw [← Nat.add_assoc] at hrows hu
  refine ⟨hrows,?_⟩
  rw [nc r1,hu,← hv,Array.getD_eq_getD_getElem?,hu]
  rfl
def adj (fr:Bool) (f:AV→M AV):Prop:=∀ a st x bp,f a st=some (x,bp)→bp.h=st.h∧bp.nx=st.nx∧Hm fr st.h a x
theorem z0 {fr} {f:AV→M AV} (hf:adj fr f):∀ (l:List AV) (st:St) (l':List AV) (bp:St),Cp f l st=some (l',bp)→bp.h=st.h∧bp.nx=st.nx∧Hj fr st.h l l'
 | [],st,l',bp,h=>by cases h;exact ⟨rfl,rfl,.nil⟩
 |a::l,st,l',bp,h=>by
  change (M.bind (f a) fun x=>M.bind (Cp f l) fun l=>M.pure (x::l)) st=_ at h
  obtain ⟨x,s1,h1,h⟩:=bind_some h
  obtain ⟨q,s2,h2,h⟩:=bind_some h
  cases h
  obtain ⟨e1,e2,e3⟩:=hf a st x s1 h1
  obtain ⟨e4,e5,e6⟩:=z0 hf l s1 q _ h2
  rw [e1] at e6
  exact ⟨e4.trans e1,e5.trans e2,.cons e3 e6⟩
theorem ave {g g' w vs} {l:List Value} (h:bu g w (l.map .sc) vs):bu g' w (l.map .sc) vs:=
 ⟨h.1,fun i a v ha hv=>by
  have h1:=h.2 i a v ha hv
  rw [List.getElem?_map,Option.map_eq_some_iff] at ha
  obtain ⟨u,_,rfl⟩:=ha
  cases h1
  exact .sc _⟩
theorem aqs {fr} {f:AV→M AV} (hf:adj fr f):adj fr (adl fr f):=by
 intro a st x bp h
 cases a with
 |sc v=>
  cases h
  exact ⟨rfl,rfl,rfl,(fun _ _ _ hr=>by cases hr;exact .sc _),fun _ _ _ hr=>ave hr⟩
 |ez=>cases h;exact ⟨rfl,rfl,.one rfl rfl fun _ _ _ hr=>by cases hr;exact .ez _⟩
 |agg l=>
  change ((Cp f l).bind fun l=>M.pure (AV.agg l)) st=some (x,bp) at h
  obtain ⟨l',s1,h1,h⟩:=bind_some h
  cases h
  obtain ⟨e1,e2,e3⟩:=z0 hf l st l' _ h1
  refine ⟨e1,e2,e3.len,fun {g w K b0 v} hok hl hb hr=>?_,fun hok hl hb hr=>e3.rel hok hl hb hr⟩
  cases hr with
  |agg _ vs hs hh=>
   have q:=e3.rel (b0:=b0) hok hl hb (vs:=vs.toList) ⟨by simpa using hs,fun i a v ha hv=>hh i a v ha (by simpa using hv)⟩
   exact .agg _ vs (by rw [hs,e3.len]) (fun i a v ha hv=>q.2 i a v ha (by simpa using hv))
 |gb l=>
  change ((Cp f l).bind fun l=>M.pure (AV.gb l)) st=some (x,bp) at h
  obtain ⟨l',s1,h1,h⟩:=bind_some h
  cases h
  obtain ⟨e1,e2,e3⟩:=z0 hf l st l' _ h1
  refine ⟨e1,e2,.one rfl rfl fun {g w K b0 v} hok hl hb hr=>?_⟩
  cases hr with
  |gb _ vs hs hh=>
   have q:=e3.rel (b0:=b0) hok hl hb (vs:=vs.toList) ⟨by simpa using hs,fun i a v ha hv=>hh i a v ha (by simpa using hv)⟩
   exact .gb _ vs (by rw [hs,e3.len]) (fun i a v ha hv=>q.2 i a v ha (by simpa using hv))
 |vl loc sz es=>
  change (bif loc || !fr then (Cp f es).bind fun l=>M.pure (AV.vl fr sz l) else M.fail) st=some (x,bp) at h
  cases hb:(loc || !fr) with
  |false=>rw [hb] at h;cases h
  |true=>
   rw [hb,cond_true] at h
   obtain ⟨l',s1,h1,h⟩:=bind_some h
   cases h
   obtain ⟨e1,e2,e3⟩:=z0 hf es st l' _ h1
   exact ⟨e1,e2,azp e3 hb⟩
 |sl o off len sz=>
  change ((de o).bind (Zd fr (Cp f) off len sz)) st=_ at h
  obtain ⟨ob,s1,h1,h⟩:=bind_some h
  obtain ⟨ho,hs1⟩:=gh h1
  cases ob with
  |row cells k s e=>
   change (bif Nat.ble (off+len * sz) cells.length then (Cp f ((cells.drop off).take (len * sz))).bind fun l=>(M.of (Pc sz len l)).bind fun es=>M.pure (AV.vl fr sz es) else M.fail) s1=some (x,bp) at h
   cases hle:Nat.ble (off+len * sz) cells.length with
   |false=>rw [hle] at h;cases h
   |true=>
    rw [hle,cond_true] at h
    obtain ⟨l,s2,h2,h⟩:=bind_some h
    obtain ⟨es,s3,h3,h⟩:=bind_some h
    cases h
    obtain ⟨h4,rfl⟩:=m9 h3
    obtain ⟨e1,e2,e3⟩:=z0 hf _ s1 l _ h2
    rw [hs1.1] at e1 e3
    rw [hs1.2] at e2
    exact ⟨e1,e2,azx ho (Nat.le_of_ble_eq_true hle) e3 h4⟩
  |_=>cases h
 |_=>cases h
theorem Nc (fr:Bool):∀ n,adj fr (deep fr n)
 |0=>fun _ _ _ _ h=>by cases h
 |n+1=>aqs (Nc fr n)
theorem Ip {f:AV→M AV} (hf:∀ a,ag (f a)):∀ l,ag (Cp f l)
 | []=>ag.pure _
 |a::l=>ag.bind (hf a) fun _=>ag.bind (Ip hf l) fun _=>ag.pure _
theorem adp {fr} {f:AV→M AV} (hf:∀ a,ag (f a)) (a:AV):ag (adl fr f a):=by
 unfold adl Zd
 repeat' (first|exact ag.pure _|exact ag.fail|exact ag.of _|exact ag.de _|exact Ip hf _|apply ag.cond|(refine ag.bind ?_ fun x=>?_)|split)
theorem Ra (fr:Bool):∀ n a,ag (deep fr n a)
 |0,_=>ag.fail
 |n+1,a=>adp (Ra fr n) a
namespace Lit
abbrev I (k:IntKind) (n:Int):AV:=.sc (.int k n)
abbrev B (b:Bool):AV:=.sc (.bool b)
abbrev S (l:List UInt8):AV:=.sc (.string ⟨⟨l⟩⟩)
abbrev N:AV:=.sc (.slice none 0 0)
abbrev G (l:List AV):AV:=.agg l
abbrev T (l:List AV):AV:=.gb l
abbrev V (loc:Bool) (sz:Nat) (es:List AV):AV:=.vl loc sz es
end Lit
abbrev Y8:=List (List AV × AV)
def adf (ds:List AV):Y8→Option AV
 | []=>none
 |p::r=>bif ly.eqL p.1 ds then some p.2 else adf ds r
theorem Z8 {ds:List AV} {r:AV}:∀ {l:Y8},adf ds l=some r→(ds,r) ∈ l
 | [],h=>by cases h
 |p::l,h=>by
  unfold adf at h
  cases hb:ly.eqL p.1 ds with
  |false=>rw [hb] at h;exact List.mem_cons_of_mem _ (Z8 h)
  |true=>
   rw [hb] at h
   cases h
   rw [← B0 hb]
   exact List.mem_cons_self
def tt (n:Nat) (l:Y8) (args:List AV):M AV:=(Cp (deep false n) args).bind fun ds=>M.of (adf ds l)
theorem jv (n:Nat) (l:Y8) (args:List AV):ag (tt n l args):=ag.bind (Ip (Ra false n) _) fun _=>ag.of _
def fk (P:Program) (f:Nat) (l:Y8):Prop:=∀ p ∈ l,p.2.fresh=true∧bc P f p.1 p.2
theorem fk.nil {P f}:fk P f []:=fun p hp=>by cases hp
theorem fk.cons {P f a r l} (hf:r.fresh=true) (h:bc P f a r) (hl:fk P f l):fk P f ((a,r)::l):=fun p hp=>by
 rcases List.mem_cons.1 hp with rfl|hp
 ·exact ⟨hf,h⟩
 ·exact hl p hp
theorem ma {P:Program} {f n:Nat} {l:Y8} (h:fk P f l) (args:List AV):Be P f args (tt n l args):=by
 intro g st w vs r st' hok hfree _ hrel hm
 obtain ⟨ds,s1,h1,hm⟩:=bind_some hm
 obtain ⟨h2,rfl⟩:=m9 hm
 obtain ⟨hfr,hp⟩:=h _ (Z8 h2)
 obtain ⟨e1,e2,e3⟩:=z0 (Nc false n) args st ds _ h1
 have hargs:=e3.rel (b0:=w.heap.size) (K:=fun b _=>b<w.heap.size) hok ⟨fun b j hk=>hok.K b j hk,fun o cells k s e ho b base hi j hj=>by
  obtain ⟨b',base',h5,_,h6⟩:=hok.obj o _ ho
  rw [hi] at h5;cases h5
  exact h6.lt⟩ (fun h=>by cases h) hrel
 rw [e1,e2]
 have hX:∀ v w',Ap w w'∧Rel (gK w.heap.size (ae6 (fun b _=>b<w.heap.size) w w')) w' r v→Ap w w'∧Rel (g.more w w') w' r v:=fun v w' hv=>⟨hv.1,hv.2.fresh hfr hok.size (fun b j hk hle=>by
  rcases hk with hk|hk
  ·omega
  ·exact .inr hk)⟩
 rcases hp (fun b _=>b<w.heap.size) w vs (fun _ _ h=>h) hargs with ⟨v,q1,q2⟩|⟨q1,q2⟩
 ·obtain ⟨q,hr⟩:=hX v w q2
  have:=Ee (lo:=st.nx) (hi:=st.nx) hok q
  exact .inl ⟨v,w,_,q1,this.1,this.2,hr⟩
 ·refine .inr ⟨q1,q2.mono ?_⟩
  rintro e w' ⟨v,rfl,h3⟩
  obtain ⟨q,hr⟩:=hX v w' h3
  have:=Ee (lo:=st.nx) (hi:=st.nx) hok q
  exact ⟨v,_,rfl,this.1,this.2,hr⟩
def aqu (n:Nat):RC AV where
 E _ x:=x
 D fr h a:=match deep fr n a { h:=h,nx:=0,rl:=[],wl:=[] } with
  |some p=>some p.1
  |none=>none
 ok:=by
  intro fr g h w K b0 a v x hok hl hb hr hd
  split at hd
  ·rename_i p hp
   cases hd
   exact ((Nc fr n) a _ p.1 p.2 hp).2.2.rel hok hl hb hr
  ·cases hd
def aza (n:Nat) (o:Option (AV × St)) (x:AV):Bool:=
 match o with
 |some p=>match (aqu n).get true p.2.h p.1 with
  |some y=>ly y x && x.fresh
  |none=>false
 |none=>false
theorem fe {P:Program} {look:ff} (hl:lq P look) {f n:Nat} (he:mc P f=true) {args:List AV} {x:AV} (h:aza n (match look f with|some p=>p.2 args (bq [])|none=>none) x=true):x.fresh=true∧bc P f args x:=by
 unfold aza at h
 cases hp:look f with
 |none=>rw [hp] at h;cases h
 |some p=>
  rw [hp] at h
  dsimp only at h
  cases hq:p.2 args (bq []) with
  |none=>rw [hq] at h;cases h
  |some q=>
   rw [hq] at h
   dsimp only at h
   cases hy:(aqu n).get true q.2.h q.1 with
   |none=>rw [hy] at h;cases h
   |some y=>
    rw [hy] at h
    simp only [Bool.and_eq_true] at h
    have hx:=Jv h.1
    subst hx
    exact ⟨h.2,G6 hl hp he (aqu n) true y (r:=q.1) (st':=q.2) hq hy⟩
end
end Go.Vm
section
namespace Go.Proofs.YtajammoepjpiiaaGreat.known21
open Go.Vm Go.Vm.Lit
set_option maxRecDepth 1000000
noncomputable def pv0:AV:=(V false 8 [(G [(N),(I .u16 (6)),(I .u16 (1)),(I .u32 (60)),(V false 1 [(V false 1 [(S [110,115]),(S [114,111,111,116])]),(V false 1 [(S [110,115]),(S [114,111,111,116])])]),(V false 1 [(I .u32 (1)),(I .u32 (2)),(I .u32 (3)),(I .u32 (4)),(I .u32 (30))]),(N),(N)]),(G [(N),(I .u16 (2)),(I .u16 (1)),(I .u32 (60)),(V false 1 [(V false 1 [(S [110,115]),(S [114,111,111,116])])]),(N),(N),(N)]),(G [(V false 1 [(S [110,115]),(S [114,111,111,116])]),(I .u16 (1)),(I .u16 (1)),(I .u32 (60)),(N),(N),(N),(V false 1 [(I .u8 (10)),(I .u8 (0)),(I .u8 (0)),(I .u8 (1))])]),(G [(V false 1 [(S [97])]),(I .u16 (2)),(I .u16 (1)),(I .u32 (60)),(V false 1 [(V false 1 [(S [110,115]),(S [97])])]),(N),(N),(N)]),(G [(V false 1 [(S [110,115]),(S [97])]),(I .u16 (1)),(I .u16 (1)),(I .u32 (60)),(N),(N),(N),(V false 1 [(I .u8 (10)),(I .u8 (0)),(I .u8 (0)),(I .u8 (2))])])])
noncomputable def pv1:AV:=(T [(G [(V true 1 []),(V true 5 [(G [(V true 1 []),(I .u16 (2)),(I .u16 (1)),(I .u32 (60)),(V true 4 [(G [(V true 1 [(V true 1 [(S [110,115]),(S [114,111,111,116])])]),(N),(N),(N)])])]),(G [(V true 1 []),(I .u16 (6)),(I .u16 (1)),(I .u32 (60)),(V true 4 [(G [(V true 1 [(V true 1 [(S [110,115]),(S [114,111,111,116])]),(V true 1 [(S [110,115]),(S [114,111,111,116])])]),(V true 1 [(I .u32 (1)),(I .u32 (2)),(I .u32 (3)),(I .u32 (4)),(I .u32 (30))]),(N),(N)])])]),(G [(V true 1 [(S [97])]),(I .u16 (2)),(I .u16 (1)),(I .u32 (60)),(V true 4 [(G [(V true 1 [(V true 1 [(S [110,115]),(S [97])])]),(N),(N),(N)])])]),(G [(V true 1 [(S [110,115]),(S [97])]),(I .u16 (1)),(I .u16 (1)),(I .u32 (60)),(V true 4 [(G [(N),(N),(N),(V true 1 [(I .u8 (10)),(I .u8 (0)),(I .u8 (0)),(I .u8 (2))])])])]),(G [(V true 1 [(S [110,115]),(S [114,111,111,116])]),(I .u16 (1)),(I .u16 (1)),(I .u32 (60)),(V true 4 [(G [(N),(N),(N),(V true 1 [(I .u8 (10)),(I .u8 (0)),(I .u8 (0)),(I .u8 (1))])])])])])]),(I .i64 (0))])
noncomputable def pb0:ff:=mi [(194,true,q9),(191,true,fm)]
theorem G8:lq PP pb0∧g7 pb0:=
 du (fun args=>nh (fn:=(PP.funcs[194]?).getD default) (by kernel_rfl) (by kernel_rfl) (by kernel_rfl) (by kernel_rfl) (by kernel_rfl) args) (fun args=>j6 args) (du (fun args=>i6 (fn:=(PP.funcs[191]?).getD default) (by kernel_rfl) (by kernel_rfl) (by kernel_rfl) (by kernel_rfl) (by kernel_rfl) args) (fun args=>i4 args) (mo))
noncomputable def pa0:List AV:=[(N),pv0]
noncomputable def pr0:AV:=pv1
theorem pm0:pr0.fresh=true∧bc PP 70 pa0 pr0:=
 fe (n:=60) (i5 G8.1 G8.2 mixed 100000 60).1 (by kernel_rfl) (by kernel_rfl)
noncomputable def pv2:AV:=(V false 8 [(G [(V false 1 [(S [97])]),(I .u16 (6)),(I .u16 (1)),(I .u32 (60)),(V false 1 [(V false 1 [(S [110,115]),(S [97])]),(V false 1 [(S [110,115]),(S [97])])]),(V false 1 [(I .u32 (1)),(I .u32 (2)),(I .u32 (3)),(I .u32 (4)),(I .u32 (30))]),(N),(N)]),(G [(V false 1 [(S [97])]),(I .u16 (2)),(I .u16 (1)),(I .u32 (60)),(V false 1 [(V false 1 [(S [110,115]),(S [97])])]),(N),(N),(N)]),(G [(V false 1 [(S [110,115]),(S [97])]),(I .u16 (1)),(I .u16 (1)),(I .u32 (60)),(N),(N),(N),(V false 1 [(I .u8 (10)),(I .u8 (0)),(I .u8 (0)),(I .u8 (2))])])])
noncomputable def pv3:AV:=(T [(G [(V true 1 [(S [97])]),(V true 5 [(G [(V true 1 [(S [97])]),(I .u16 (2)),(I .u16 (1)),(I .u32 (60)),(V true 4 [(G [(V true 1 [(V true 1 [(S [110,115]),(S [97])])]),(N),(N),(N)])])]),(G [(V true 1 [(S [97])]),(I .u16 (6)),(I .u16 (1)),(I .u32 (60)),(V true 4 [(G [(V true 1 [(V true 1 [(S [110,115]),(S [97])]),(V true 1 [(S [110,115]),(S [97])])]),(V true 1 [(I .u32 (1)),(I .u32 (2)),(I .u32 (3)),(I .u32 (4)),(I .u32 (30))]),(N),(N)])])]),(G [(V true 1 [(S [110,115]),(S [97])]),(I .u16 (1)),(I .u16 (1)),(I .u32 (60)),(V true 4 [(G [(N),(N),(N),(V true 1 [(I .u8 (10)),(I .u8 (0)),(I .u8 (0)),(I .u8 (2))])])])])])]),(I .i64 (0))])
noncomputable def pa1:List AV:=[(V false 1 [(S [97])]),pv2]
noncomputable def pr1:AV:=pv3
theorem pm1:pr1.fresh=true∧bc PP 70 pa1 pr1:=
 fe (n:=60) (i5 G8.1 G8.2 mixed 100000 60).1 (by kernel_rfl) (by kernel_rfl)
noncomputable def pv4:AV:=(V false 8 [(G [(V false 1 [(S [97])]),(I .u16 (2)),(I .u16 (1)),(I .u32 (60)),(V false 1 [(V false 1 [(S [110,115]),(S [97])])]),(N),(N),(N)]),(G [(V false 1 [(S [97])]),(I .u16 (6)),(I .u16 (1)),(I .u32 (60)),(V false 1 [(V false 1 [(S [110,115]),(S [97])]),(V false 1 [(S [110,115]),(S [97])])]),(V false 1 [(I .u32 (1)),(I .u32 (2)),(I .u32 (3)),(I .u32 (4)),(I .u32 (30))]),(N),(N)]),(G [(V false 1 [(S [110,115]),(S [97])]),(I .u16 (1)),(I .u16 (1)),(I .u32 (60)),(N),(N),(N),(V false 1 [(I .u8 (10)),(I .u8 (0)),(I .u8 (0)),(I .u8 (2))])]),(G [(V false 1 [(S [119,119,119]),(S [97])]),(I .u16 (5)),(I .u16 (1)),(I .u32 (60)),(V false 1 [(V false 1 [(S [109]),(S [97])])]),(N),(N),(N)]),(G [(V false 1 [(S [109]),(S [97])]),(I .u16 (1)),(I .u16 (1)),(I .u32 (60)),(N),(N),(N),(V false 1 [(I .u8 (10)),(I .u8 (0)),(I .u8 (0)),(I .u8 (9))])]),(G [(V false 1 [(S [120]),(S [97])]),(I .u16 (5)),(I .u16 (1)),(I .u32 (60)),(V false 1 [(V false 1 [(S [120]),(S [97])])]),(N),(N),(N)]),(G [(V false 1 [(S [111]),(S [97])]),(I .u16 (5)),(I .u16 (1)),(I .u32 (60)),(V false 1 [(V false 1 [(S [110,115]),(S [114,111,111,116])])]),(N),(N),(N)])])
noncomputable def pv5:AV:=(T [(G [(V true 1 [(S [97])]),(V true 5 [(G [(V true 1 [(S [97])]),(I .u16 (2)),(I .u16 (1)),(I .u32 (60)),(V true 4 [(G [(V true 1 [(V true 1 [(S [110,115]),(S [97])])]),(N),(N),(N)])])]),(G [(V true 1 [(S [97])]),(I .u16 (6)),(I .u16 (1)),(I .u32 (60)),(V true 4 [(G [(V true 1 [(V true 1 [(S [110,115]),(S [97])]),(V true 1 [(S [110,115]),(S [97])])]),(V true 1 [(I .u32 (1)),(I .u32 (2)),(I .u32 (3)),(I .u32 (4)),(I .u32 (30))]),(N),(N)])])]),(G [(V true 1 [(S [109]),(S [97])]),(I .u16 (1)),(I .u16 (1)),(I .u32 (60)),(V true 4 [(G [(N),(N),(N),(V true 1 [(I .u8 (10)),(I .u8 (0)),(I .u8 (0)),(I .u8 (9))])])])]),(G [(V true 1 [(S [110,115]),(S [97])]),(I .u16 (1)),(I .u16 (1)),(I .u32 (60)),(V true 4 [(G [(N),(N),(N),(V true 1 [(I .u8 (10)),(I .u8 (0)),(I .u8 (0)),(I .u8 (2))])])])]),(G [(V true 1 [(S [111]),(S [97])]),(I .u16 (5)),(I .u16 (1)),(I .u32 (60)),(V true 4 [(G [(V true 1 [(V true 1 [(S [110,115]),(S [114,111,111,116])])]),(N),(N),(N)])])]),(G [(V true 1 [(S [119,119,119]),(S [97])]),(I .u16 (5)),(I .u16 (1)),(I .u32 (60)),(V true 4 [(G [(V true 1 [(V true 1 [(S [109]),(S [97])])]),(N),(N),(N)])])]),(G [(V true 1 [(S [120]),(S [97])]),(I .u16 (5)),(I .u16 (1)),(I .u32 (60)),(V true 4 [(G [(V true 1 [(V true 1 [(S [120]),(S [97])])]),(N),(N),(N)])])])])]),(I .i64 (0))])
noncomputable def pa2:List AV:=[(V false 1 [(S [97])]),pv4]
noncomputable def pr2:AV:=pv5
theorem pm2:pr2.fresh=true∧bc PP 70 pa2 pr2:=
 fe (n:=60) (i5 G8.1 G8.2 mixed 100000 60).1 (by kernel_rfl) (by kernel_rfl)
noncomputable def pv6:AV:=(G [(V true 2 [(G [(V true 1 []),(V true 5 [(G [(V true 1 []),(I .u16 (2)),(I .u16 (1)),(I .u32 (60)),(V true 4 [(G [(V true 1 [(V true 1 [(S [110,115]),(S [114,111,111,116])])]),(N),(N),(N)])])]),(G [(V true 1 []),(I .u16 (6)),(I .u16 (1)),(I .u32 (60)),(V true 4 [(G [(V true 1 [(V true 1 [(S [110,115]),(S [114,111,111,116])]),(V true 1 [(S [110,115]),(S [114,111,111,116])])]),(V true 1 [(I .u32 (1)),(I .u32 (2)),(I .u32 (3)),(I .u32 (4)),(I .u32 (30))]),(N),(N)])])]),(G [(V true 1 [(S [97])]),(I .u16 (2)),(I .u16 (1)),(I .u32 (60)),(V true 4 [(G [(V true 1 [(V true 1 [(S [110,115]),(S [97])])]),(N),(N),(N)])])]),(G [(V true 1 [(S [110,115]),(S [97])]),(I .u16 (1)),(I .u16 (1)),(I .u32 (60)),(V true 4 [(G [(N),(N),(N),(V true 1 [(I .u8 (10)),(I .u8 (0)),(I .u8 (0)),(I .u8 (2))])])])]),(G [(V true 1 [(S [110,115]),(S [114,111,111,116])]),(I .u16 (1)),(I .u16 (1)),(I .u32 (60)),(V true 4 [(G [(N),(N),(N),(V true 1 [(I .u8 (10)),(I .u8 (0)),(I .u8 (0)),(I .u8 (1))])])])])])]),(G [(V true 1 [(S [97])]),(V true 5 [(G [(V true 1 [(S [97])]),(I .u16 (2)),(I .u16 (1)),(I .u32 (60)),(V true 4 [(G [(V true 1 [(V true 1 [(S [110,115]),(S [97])])]),(N),(N),(N)])])]),(G [(V true 1 [(S [97])]),(I .u16 (6)),(I .u16 (1)),(I .u32 (60)),(V true 4 [(G [(V true 1 [(V true 1 [(S [110,115]),(S [97])]),(V true 1 [(S [110,115]),(S [97])])]),(V true 1 [(I .u32 (1)),(I .u32 (2)),(I .u32 (3)),(I .u32 (4)),(I .u32 (30))]),(N),(N)])])]),(G [(V true 1 [(S [109]),(S [97])]),(I .u16 (1)),(I .u16 (1)),(I .u32 (60)),(V true 4 [(G [(N),(N),(N),(V true 1 [(I .u8 (10)),(I .u8 (0)),(I .u8 (0)),(I .u8 (9))])])])]),(G [(V true 1 [(S [110,115]),(S [97])]),(I .u16 (1)),(I .u16 (1)),(I .u32 (60)),(V true 4 [(G [(N),(N),(N),(V true 1 [(I .u8 (10)),(I .u8 (0)),(I .u8 (0)),(I .u8 (2))])])])]),(G [(V true 1 [(S [111]),(S [97])]),(I .u16 (5)),(I .u16 (1)),(I .u32 (60)),(V true 4 [(G [(V true 1 [(V true 1 [(S [110,115]),(S [114,111,111,116])])]),(N),(N),(N)])])]),(G [(V true 1 [(S [119,119,119]),(S [97])]),(I .u16 (5)),(I .u16 (1)),(I .u32 (60)),(V true 4 [(G [(V true 1 [(V true 1 [(S [109]),(S [97])])]),(N),(N),(N)])])]),(G [(V true 1 [(S [120]),(S [97])]),(I .u16 (5)),(I .u16 (1)),(I .u32 (60)),(V true 4 [(G [(V true 1 [(V true 1 [(S [120]),(S [97])])]),(N),(N),(N)])])])])])]),(V true 2 [(G [(I .u32 (167772161)),(V true 1 [(I .i64 (0))])]),(G [(I .u32 (167772162)),(V true 1 [(I .i64 (1))])])]),(V true 1 [(I .u32 (167772161))])])
noncomputable def pb1:ff:=mi [(194,true,q9),(191,true,fm),(70,false,tt 60 [(pa0,pr0),(pa1,pr1),(pa2,pr2)])]
theorem ayb:lq PP pb1∧g7 pb1:=
 du (fun args=>nh (fn:=(PP.funcs[194]?).getD default) (by kernel_rfl) (by kernel_rfl) (by kernel_rfl) (by kernel_rfl) (by kernel_rfl) args) (fun args=>j6 args) (du (fun args=>i6 (fn:=(PP.funcs[191]?).getD default) (by kernel_rfl) (by kernel_rfl) (by kernel_rfl) (by kernel_rfl) (by kernel_rfl) args) (fun args=>i4 args) (du (fun args=>ma (fk.cons pm0.1 pm0.2 (fk.cons pm1.1 pm1.2 (fk.cons pm2.1 pm2.2 (fk.nil)))) args) (fun args=>jv 60 _ args) (mo)))
noncomputable def pa3:List AV:=[]
noncomputable def pr3:AV:=pv6
theorem pm3:pr3.fresh=true∧bc PP 60 pa3 pr3:=
 fe (n:=60) (i5 ayb.1 ayb.2 mixed 100000 60).1 (by kernel_rfl) (by kernel_rfl)
noncomputable def Bj:AV:=(G [(V false 2 [(G [(V false 1 []),(V false 5 [(G [(V false 1 []),(I .u16 (2)),(I .u16 (1)),(I .u32 (60)),(V false 4 [(G [(V false 1 [(V false 1 [(S [110,115]),(S [114,111,111,116])])]),(N),(N),(N)])])]),(G [(V false 1 []),(I .u16 (6)),(I .u16 (1)),(I .u32 (60)),(V false 4 [(G [(V false 1 [(V false 1 [(S [110,115]),(S [114,111,111,116])]),(V false 1 [(S [110,115]),(S [114,111,111,116])])]),(V false 1 [(I .u32 (1)),(I .u32 (2)),(I .u32 (3)),(I .u32 (4)),(I .u32 (30))]),(N),(N)])])]),(G [(V false 1 [(S [97])]),(I .u16 (2)),(I .u16 (1)),(I .u32 (60)),(V false 4 [(G [(V false 1 [(V false 1 [(S [110,115]),(S [97])])]),(N),(N),(N)])])]),(G [(V false 1 [(S [110,115]),(S [97])]),(I .u16 (1)),(I .u16 (1)),(I .u32 (60)),(V false 4 [(G [(N),(N),(N),(V false 1 [(I .u8 (10)),(I .u8 (0)),(I .u8 (0)),(I .u8 (2))])])])]),(G [(V false 1 [(S [110,115]),(S [114,111,111,116])]),(I .u16 (1)),(I .u16 (1)),(I .u32 (60)),(V false 4 [(G [(N),(N),(N),(V false 1 [(I .u8 (10)),(I .u8 (0)),(I .u8 (0)),(I .u8 (1))])])])])])]),(G [(V false 1 [(S [97])]),(V false 5 [(G [(V false 1 [(S [97])]),(I .u16 (2)),(I .u16 (1)),(I .u32 (60)),(V false 4 [(G [(V false 1 [(V false 1 [(S [110,115]),(S [97])])]),(N),(N),(N)])])]),(G [(V false 1 [(S [97])]),(I .u16 (6)),(I .u16 (1)),(I .u32 (60)),(V false 4 [(G [(V false 1 [(V false 1 [(S [110,115]),(S [97])]),(V false 1 [(S [110,115]),(S [97])])]),(V false 1 [(I .u32 (1)),(I .u32 (2)),(I .u32 (3)),(I .u32 (4)),(I .u32 (30))]),(N),(N)])])]),(G [(V false 1 [(S [109]),(S [97])]),(I .u16 (1)),(I .u16 (1)),(I .u32 (60)),(V false 4 [(G [(N),(N),(N),(V false 1 [(I .u8 (10)),(I .u8 (0)),(I .u8 (0)),(I .u8 (9))])])])]),(G [(V false 1 [(S [110,115]),(S [97])]),(I .u16 (1)),(I .u16 (1)),(I .u32 (60)),(V false 4 [(G [(N),(N),(N),(V false 1 [(I .u8 (10)),(I .u8 (0)),(I .u8 (0)),(I .u8 (2))])])])]),(G [(V false 1 [(S [111]),(S [97])]),(I .u16 (5)),(I .u16 (1)),(I .u32 (60)),(V false 4 [(G [(V false 1 [(V false 1 [(S [110,115]),(S [114,111,111,116])])]),(N),(N),(N)])])]),(G [(V false 1 [(S [119,119,119]),(S [97])]),(I .u16 (5)),(I .u16 (1)),(I .u32 (60)),(V false 4 [(G [(V false 1 [(V false 1 [(S [109]),(S [97])])]),(N),(N),(N)])])]),(G [(V false 1 [(S [120]),(S [97])]),(I .u16 (5)),(I .u16 (1)),(I .u32 (60)),(V false 4 [(G [(V false 1 [(V false 1 [(S [120]),(S [97])])]),(N),(N),(N)])])])])])]),(V false 2 [(G [(I .u32 (167772161)),(V false 1 [(I .i64 (0))])]),(G [(I .u32 (167772162)),(V false 1 [(I .i64 (1))])])]),(V false 1 [(I .u32 (167772161))])])
noncomputable def pa4:List AV:=[Bj]
noncomputable def pr4:AV:=(I .i64 (0))
theorem pm4:pr4.fresh=true∧bc PP 16 pa4 pr4:=
 fe (n:=60) (i5 G8.1 G8.2 mixed 100000 60).1 (by kernel_rfl) (by kernel_rfl)
noncomputable def pb2:ff:=mi [(194,true,q9),(191,true,fm),(16,false,tt 60 [(pa4,pr4)])]
theorem tr:lq PP pb2∧g7 pb2:=
 du (fun args=>nh (fn:=(PP.funcs[194]?).getD default) (by kernel_rfl) (by kernel_rfl) (by kernel_rfl) (by kernel_rfl) (by kernel_rfl) args) (fun args=>j6 args) (du (fun args=>i6 (fn:=(PP.funcs[191]?).getD default) (by kernel_rfl) (by kernel_rfl) (by kernel_rfl) (by kernel_rfl) (by kernel_rfl) args) (fun args=>i4 args) (du (fun args=>ma (fk.cons pm4.1 pm4.2 (fk.nil)) args) (fun args=>jv 60 _ args) (mo)))
noncomputable def pa5:List AV:=[Bj,(V false 1 [(S [119,119,119]),(S [97])]),(I .u16 (1))]
noncomputable def pr5:AV:=(I .i64 (0))
theorem pm5:pr5.fresh=true∧bc PP 62 pa5 pr5:=
 fe (n:=60) (i5 tr.1 tr.2 mixed 100000 60).1 (by kernel_rfl) (by kernel_rfl)
noncomputable def pv8:AV:=(T [(G [(I .i64 (0)),(B false),(V true 5 [(G [(V true 1 [(S [119,119,119]),(S [97])]),(I .u16 (5)),(I .u16 (1)),(I .u32 (60)),(V true 4 [(G [(V true 1 [(V true 1 [(S [109]),(S [97])])]),(N),(N),(N)])])]),(G [(V true 1 [(S [109]),(S [97])]),(I .u16 (1)),(I .u16 (1)),(I .u32 (60)),(V true 4 [(G [(N),(N),(N),(V true 1 [(I .u8 (10)),(I .u8 (0)),(I .u8 (0)),(I .u8 (9))])])])])]),(N),(N)]),(I .i64 (0))])
noncomputable def pb3:ff:=mi [(194,true,q9),(191,true,fm),(62,false,tt 60 [(pa5,pr5)])]
theorem ayr:lq PP pb3∧g7 pb3:=
 du (fun args=>nh (fn:=(PP.funcs[194]?).getD default) (by kernel_rfl) (by kernel_rfl) (by kernel_rfl) (by kernel_rfl) (by kernel_rfl) args) (fun args=>j6 args) (du (fun args=>i6 (fn:=(PP.funcs[191]?).getD default) (by kernel_rfl) (by kernel_rfl) (by kernel_rfl) (by kernel_rfl) (by kernel_rfl) args) (fun args=>i4 args) (du (fun args=>ma (fk.cons pm5.1 pm5.2 (fk.nil)) args) (fun args=>jv 60 _ args) (mo)))
noncomputable def pa6:List AV:=[Bj,(V false 1 [(S [119,119,119]),(S [97])]),(I .u16 (1))]
noncomputable def pr6:AV:=pv8
theorem pm6:pr6.fresh=true∧bc PP 26 pa6 pr6:=
 fe (n:=60) (i5 ayr.1 ayr.2 mixed 100000 60).1 (by kernel_rfl) (by kernel_rfl)
noncomputable def pa7:List AV:=[Bj,(V false 1 [(S [111]),(S [97])]),(I .u16 (1))]
noncomputable def pr7:AV:=(I .i64 (0))
theorem pm7:pr7.fresh=true∧bc PP 62 pa7 pr7:=
 fe (n:=60) (i5 tr.1 tr.2 mixed 100000 60).1 (by kernel_rfl) (by kernel_rfl)
noncomputable def pv9:AV:=(T [(G [(I .i64 (0)),(B false),(V true 5 [(G [(V true 1 [(S [111]),(S [97])]),(I .u16 (5)),(I .u16 (1)),(I .u32 (60)),(V true 4 [(G [(V true 1 [(V true 1 [(S [110,115]),(S [114,111,111,116])])]),(N),(N),(N)])])]),(G [(V true 1 [(S [110,115]),(S [114,111,111,116])]),(I .u16 (1)),(I .u16 (1)),(I .u32 (60)),(V true 4 [(G [(N),(N),(N),(V true 1 [(I .u8 (10)),(I .u8 (0)),(I .u8 (0)),(I .u8 (1))])])])])]),(N),(N)]),(I .i64 (0))])
noncomputable def pb4:ff:=mi [(194,true,q9),(191,true,fm),(62,false,tt 60 [(pa7,pr7)])]
theorem ada:lq PP pb4∧g7 pb4:=
 du (fun args=>nh (fn:=(PP.funcs[194]?).getD default) (by kernel_rfl) (by kernel_rfl) (by kernel_rfl) (by kernel_rfl) (by kernel_rfl) args) (fun args=>j6 args) (du (fun args=>i6 (fn:=(PP.funcs[191]?).getD default) (by kernel_rfl) (by kernel_rfl) (by kernel_rfl) (by kernel_rfl) (by kernel_rfl) args) (fun args=>i4 args) (du (fun args=>ma (fk.cons pm7.1 pm7.2 (fk.nil)) args) (fun args=>jv 60 _ args) (mo)))
noncomputable def pa8:List AV:=[Bj,(V false 1 [(S [111]),(S [97])]),(I .u16 (1))]
noncomputable def pr8:AV:=pv9
theorem pm8:pr8.fresh=true∧bc PP 26 pa8 pr8:=
 fe (n:=60) (i5 ada.1 ada.2 mixed 100000 60).1 (by kernel_rfl) (by kernel_rfl)
noncomputable def aG0:AV:=(T [(V true 1 [(V true 1 [(S [111]),(S [97])]),(V true 1 [(S [110,115]),(S [114,111,111,116])])]),(V true 1 [(I .i64 (1)),(I .i64 (0))]),(I .i64 (0))])
noncomputable def pa9:List AV:=[Bj,(V false 1 [(S [111]),(S [97])]),(I .u16 (1))]
noncomputable def pr9:AV:=aG0
theorem pm9:pr9.fresh=true∧bc PP 27 pa9 pr9:=
 fe (n:=60) (i5 ada.1 ada.2 mixed 100000 60).1 (by kernel_rfl) (by kernel_rfl)
noncomputable def aCa:List AV:=[Bj,(V false 1 [(S [120]),(S [97])]),(I .u16 (1))]
noncomputable def axp:AV:=(I .i64 (0))
theorem aCz:axp.fresh=true∧bc PP 62 aCa axp:=
 fe (n:=60) (i5 tr.1 tr.2 mixed 100000 60).1 (by kernel_rfl) (by kernel_rfl)
noncomputable def aHc:AV:=(T [(G [(I .i64 (2)),(B false),(N),(N),(N)]),(I .i64 (0))])
noncomputable def pb5:ff:=mi [(194,true,q9),(191,true,fm),(62,false,tt 60 [(aCa,axp)])]
theorem ay0:lq PP pb5∧g7 pb5:=
 du (fun args=>nh (fn:=(PP.funcs[194]?).getD default) (by kernel_rfl) (by kernel_rfl) (by kernel_rfl) (by kernel_rfl) (by kernel_rfl) args) (fun args=>j6 args) (du (fun args=>i6 (fn:=(PP.funcs[191]?).getD default) (by kernel_rfl) (by kernel_rfl) (by kernel_rfl) (by kernel_rfl) (by kernel_rfl) args) (fun args=>i4 args) (du (fun args=>ma (fk.cons aCz.1 aCz.2 (fk.nil)) args) (fun args=>jv 60 _ args) (mo)))
noncomputable def aDp:List AV:=[Bj,(V false 1 [(S [120]),(S [97])]),(I .u16 (1))]
noncomputable def axz:AV:=aHc
theorem aCs:axz.fresh=true∧bc PP 26 aDp axz:=
 fe (n:=60) (i5 ay0.1 ay0.2 mixed 100000 60).1 (by kernel_rfl) (by kernel_rfl)
noncomputable def aB4:List AV:=[Bj,(V false 1 [(S [120]),(S [97])]),(I .u16 (5))]
noncomputable def awg:AV:=(I .i64 (0))
theorem aDz:awg.fresh=true∧bc PP 62 aB4 awg:=
 fe (n:=60) (i5 tr.1 tr.2 mixed 100000 60).1 (by kernel_rfl) (by kernel_rfl)
noncomputable def aG1:AV:=(T [(G [(I .i64 (0)),(B false),(V true 5 [(G [(V true 1 [(S [120]),(S [97])]),(I .u16 (5)),(I .u16 (1)),(I .u32 (60)),(V true 4 [(G [(V true 1 [(V true 1 [(S [120]),(S [97])])]),(N),(N),(N)])])])]),(N),(N)]),(I .i64 (0))])
noncomputable def pb6:ff:=mi [(194,true,q9),(191,true,fm),(62,false,tt 60 [(aB4,awg)])]
theorem ay5:lq PP pb6∧g7 pb6:=
 du (fun args=>nh (fn:=(PP.funcs[194]?).getD default) (by kernel_rfl) (by kernel_rfl) (by kernel_rfl) (by kernel_rfl) (by kernel_rfl) args) (fun args=>j6 args) (du (fun args=>i6 (fn:=(PP.funcs[191]?).getD default) (by kernel_rfl) (by kernel_rfl) (by kernel_rfl) (by kernel_rfl) (by kernel_rfl) args) (fun args=>i4 args) (du (fun args=>ma (fk.cons aDz.1 aDz.2 (fk.nil)) args) (fun args=>jv 60 _ args) (mo)))
noncomputable def aBo:List AV:=[Bj,(V false 1 [(S [120]),(S [97])]),(I .u16 (5))]
noncomputable def awq:AV:=aG1
theorem aD3:awq.fresh=true∧bc PP 26 aBo awq:=
 fe (n:=60) (i5 ay5.1 ay5.2 mixed 100000 60).1 (by kernel_rfl) (by kernel_rfl)
noncomputable def aCp:List AV:=[Bj,(V false 1 [(S [113]),(S [97])]),(I .u16 (1))]
noncomputable def aw8:AV:=(I .i64 (0))
theorem aBw:aw8.fresh=true∧bc PP 62 aCp aw8:=
 fe (n:=60) (i5 tr.1 tr.2 mixed 100000 60).1 (by kernel_rfl) (by kernel_rfl)
noncomputable def aGz:AV:=(T [(G [(I .i64 (3)),(B false),(N),(V true 5 [(G [(V true 1 [(S [97])]),(I .u16 (6)),(I .u16 (1)),(I .u32 (30)),(V true 4 [(G [(V true 1 [(V true 1 [(S [110,115]),(S [97])]),(V true 1 [(S [110,115]),(S [97])])]),(V true 1 [(I .u32 (1)),(I .u32 (2)),(I .u32 (3)),(I .u32 (4)),(I .u32 (30))]),(N),(N)])])])]),(N)]),(I .i64 (0))])
noncomputable def pb7:ff:=mi [(194,true,q9),(191,true,fm),(62,false,tt 60 [(aCp,aw8)])]
theorem ay1:lq PP pb7∧g7 pb7:=
 du (fun args=>nh (fn:=(PP.funcs[194]?).getD default) (by kernel_rfl) (by kernel_rfl) (by kernel_rfl) (by kernel_rfl) (by kernel_rfl) args) (fun args=>j6 args) (du (fun args=>i6 (fn:=(PP.funcs[191]?).getD default) (by kernel_rfl) (by kernel_rfl) (by kernel_rfl) (by kernel_rfl) (by kernel_rfl) args) (fun args=>i4 args) (du (fun args=>ma (fk.cons aBw.1 aBw.2 (fk.nil)) args) (fun args=>jv 60 _ args) (mo)))
noncomputable def aB6:List AV:=[Bj,(V false 1 [(S [113]),(S [97])]),(I .u16 (1))]
noncomputable def ax2:AV:=aGz
theorem aCn:ax2.fresh=true∧bc PP 26 aB6 ax2:=
 fe (n:=60) (i5 ay1.1 ay1.2 mixed 100000 60).1 (by kernel_rfl) (by kernel_rfl)
noncomputable def aCb:List AV:=[Bj,(V false 1 [(S [109]),(S [97])]),(I .u16 (16))]
noncomputable def awf:AV:=(I .i64 (0))
theorem aCk:awf.fresh=true∧bc PP 62 aCb awf:=
 fe (n:=60) (i5 tr.1 tr.2 mixed 100000 60).1 (by kernel_rfl) (by kernel_rfl)
noncomputable def aG9:AV:=(T [(G [(I .i64 (0)),(B false),(N),(V true 5 [(G [(V true 1 [(S [97])]),(I .u16 (6)),(I .u16 (1)),(I .u32 (30)),(V true 4 [(G [(V true 1 [(V true 1 [(S [110,115]),(S [97])]),(V true 1 [(S [110,115]),(S [97])])]),(V true 1 [(I .u32 (1)),(I .u32 (2)),(I .u32 (3)),(I .u32 (4)),(I .u32 (30))]),(N),(N)])])])]),(N)]),(I .i64 (0))])
noncomputable def pb8:ff:=mi [(194,true,q9),(191,true,fm),(62,false,tt 60 [(aCb,awf)])]
theorem ax3:lq PP pb8∧g7 pb8:=
 du (fun args=>nh (fn:=(PP.funcs[194]?).getD default) (by kernel_rfl) (by kernel_rfl) (by kernel_rfl) (by kernel_rfl) (by kernel_rfl) args) (fun args=>j6 args) (du (fun args=>i6 (fn:=(PP.funcs[191]?).getD default) (by kernel_rfl) (by kernel_rfl) (by kernel_rfl) (by kernel_rfl) (by kernel_rfl) args) (fun args=>i4 args) (du (fun args=>ma (fk.cons aCk.1 aCk.2 (fk.nil)) args) (fun args=>jv 60 _ args) (mo)))
noncomputable def aEf:List AV:=[Bj,(V false 1 [(S [109]),(S [97])]),(I .u16 (16))]
noncomputable def av9:AV:=aG9
theorem aEj:av9.fresh=true∧bc PP 26 aEf av9:=
 fe (n:=60) (i5 ax3.1 ax3.2 mixed 100000 60).1 (by kernel_rfl) (by kernel_rfl)
noncomputable def aDf:List AV:=[Bj,(V false 1 [(S [97])]),(I .u16 (255))]
noncomputable def axk:AV:=(I .i64 (6))
theorem aC6:axk.fresh=true∧bc PP 62 aDf axk:=
 fe (n:=60) (i5 tr.1 tr.2 mixed 100000 60).1 (by kernel_rfl) (by kernel_rfl)
noncomputable def aG5:AV:=(T [(G [(I .i64 (0)),(B false),(N),(N),(N)]),(I .i64 (6))])
noncomputable def pb9:ff:=mi [(194,true,q9),(191,true,fm),(62,false,tt 60 [(aDf,axk)])]
theorem ay6:lq PP pb9∧g7 pb9:=
 du (fun args=>nh (fn:=(PP.funcs[194]?).getD default) (by kernel_rfl) (by kernel_rfl) (by kernel_rfl) (by kernel_rfl) (by kernel_rfl) args) (fun args=>j6 args) (du (fun args=>i6 (fn:=(PP.funcs[191]?).getD default) (by kernel_rfl) (by kernel_rfl) (by kernel_rfl) (by kernel_rfl) (by kernel_rfl) args) (fun args=>i4 args) (du (fun args=>ma (fk.cons aC6.1 aC6.2 (fk.nil)) args) (fun args=>jv 60 _ args) (mo)))
noncomputable def aCt:List AV:=[Bj,(V false 1 [(S [97])]),(I .u16 (255))]
noncomputable def avk:AV:=aG5
theorem aCo:avk.fresh=true∧bc PP 26 aCt avk:=
 fe (n:=60) (i5 ay6.1 ay6.2 mixed 100000 60).1 (by kernel_rfl) (by kernel_rfl)
noncomputable def aBp:List AV:=[Bj,(V false 1 [(S [119,119,119]),(S [97])]),(I .u16 (5))]
noncomputable def av8:AV:=(I .i64 (0))
theorem aC9:av8.fresh=true∧bc PP 62 aBp av8:=
 fe (n:=60) (i5 tr.1 tr.2 mixed 100000 60).1 (by kernel_rfl) (by kernel_rfl)
noncomputable def aG7:AV:=(G [(V false 1 [(S [119,119,119]),(S [97])]),(I .u16 (5)),(I .u16 (1)),(I .u32 (60)),(V false 4 [(G [(V false 1 [(V false 1 [(S [109]),(S [97])])]),(N),(N),(N)])])])
noncomputable def aD6:ff:=mi [(194,true,q9),(191,true,fm),(62,false,tt 60 [(aBp,av8)])]
theorem asw:lq PP aD6∧g7 aD6:=
 du (fun args=>nh (fn:=(PP.funcs[194]?).getD default) (by kernel_rfl) (by kernel_rfl) (by kernel_rfl) (by kernel_rfl) (by kernel_rfl) args) (fun args=>j6 args) (du (fun args=>i6 (fn:=(PP.funcs[191]?).getD default) (by kernel_rfl) (by kernel_rfl) (by kernel_rfl) (by kernel_rfl) (by kernel_rfl) args) (fun args=>i4 args) (du (fun args=>ma (fk.cons aC9.1 aC9.2 (fk.nil)) args) (fun args=>jv 60 _ args) (mo)))
noncomputable def aD7:List AV:=[Bj,aG7]
noncomputable def awk:AV:=(B true)
theorem aDi:awk.fresh=true∧bc PP 29 aD7 awk:=
 fe (n:=60) (i5 asw.1 asw.2 mixed 100000 60).1 (by kernel_rfl) (by kernel_rfl)
noncomputable def base:ff:=mi [(194,true,q9),(191,true,fm),(60,false,tt 60 [(pa3,pr3)]),(26,false,tt 60 [(pa6,pr6),(pa8,pr8),(aDp,axz),(aBo,awq),(aB6,ax2),(aEf,av9),(aCt,avk)]),(27,false,tt 60 [(pa9,pr9)]),(29,false,tt 60 [(aD7,awk)])]
theorem auw:lq PP base∧g7 base:=
 du (fun args=>nh (fn:=(PP.funcs[194]?).getD default) (by kernel_rfl) (by kernel_rfl) (by kernel_rfl) (by kernel_rfl) (by kernel_rfl) args) (fun args=>j6 args) (du (fun args=>i6 (fn:=(PP.funcs[191]?).getD default) (by kernel_rfl) (by kernel_rfl) (by kernel_rfl) (by kernel_rfl) (by kernel_rfl) args) (fun args=>i4 args) (du (fun args=>ma (fk.cons pm3.1 pm3.2 (fk.nil)) args) (fun args=>jv 60 _ args) (du (fun args=>ma (fk.cons pm6.1 pm6.2 (fk.cons pm8.1 pm8.2 (fk.cons aCs.1 aCs.2 (fk.cons aD3.1 aD3.2 (fk.cons aCn.1 aCn.2 (fk.cons aEj.1 aEj.2 (fk.cons aCo.1 aCo.2 (fk.nil)))))))) args) (fun args=>jv 60 _ args) (du (fun args=>ma (fk.cons pm9.1 pm9.2 (fk.nil)) args) (fun args=>jv 60 _ args) (du (fun args=>ma (fk.cons aDi.1 aDi.2 (fk.nil)) args) (fun args=>jv 60 _ args) (mo))))))
noncomputable def look:ff:=Xe PP base 100000 60
theorem aBy:lq PP look:=(i5 auw.1 auw.2 mixed 100000 60).1
noncomputable def apv (r:Option (AV × St)):Bool:=match r with|some p=>(match p.1 with|.sc v=>(match v with|.bool b=>b|_=>false)|_=>false)|none=>false
noncomputable def azd (f:Nat):Option (AV × St):=match look f with|some p=>p.2 [] (bq [])|none=>none
set_option maxRecDepth 1000000
theorem runs:apv (azd 25)=true:=by kernel_rfl
theorem an8 {r:Option (AV × St)} (h:apv r=true):∃ st,r=some (.sc (.bool true),st):=by
 unfold apv at h
 split at h
 ·rename_i p
  obtain ⟨a,st⟩:=p
  dsimp only at h
  split at h
  ·split at h
   ·subst h;exact ⟨st,rfl⟩
   ·cases h
  ·cases h
 ·cases h
theorem Tc:bc PP 25 [] (.sc (.bool true)):=by
 obtain ⟨st,h⟩:=an8 runs
 unfold azd at h
 cases hp:look 25 with
 |none=>rw [hp] at h;cases h
 |some p=>
  rw [hp] at h
  exact G6 aBy hp (by kernel_rfl) (r1 bn) true true h rfl
end Go.Proofs.YtajammoepjpiiaaGreat.known21
namespace Go.Proofs.YtajammoepjpiiaaGreat
open Go.Vm
theorem ai2:bc PP 25 [] (.sc (.bool true)):=known21.Tc
end Go.Proofs.YtajammoepjpiiaaGreat
end
section
namespace Go.Proofs.YtajammoepjpiiaaGreat
open Go.Vm Go.ChangeShapes Go.WideShapes Go.ChangeAt
mutual
theorem Vx {H:Type}:∀ d:DataW H,Rows.uptoBulk d=lz d
 |.lit l=>by cases l<;>simp only [Rows.uptoBulk,lz]
 |.nil=>by simp only [Rows.uptoBulk,lz]
 |.ptr d=>by simp only [Rows.uptoBulk,lz,Vx d]
 |.slice a b=>by simp only [Rows.uptoBulk,lz,O4 a,O4 b]
 |.agg a=>by simp only [Rows.uptoBulk,lz,O4 a]
 |.iface _ d=>by simp only [Rows.uptoBulk,lz,Vx d]
 |.map e=>by simp only [Rows.uptoBulk,lz,ary e]
 |.held _=>by simp only [Rows.uptoBulk,lz]
theorem O4 {H:Type}:∀ l:List (DataW H),Rows.uptoBulkAll l=oh l
 | []=>by simp only [Rows.uptoBulkAll,oh]
 |d::r=>by simp only [Rows.uptoBulkAll,oh,Vx d,O4 r]
theorem ary {H:Type}:∀ l:List (Lit × DataW H),Rows.uptoBulkEntries l=U5 l
 | []=>by simp only [Rows.uptoBulkEntries,U5]
 |x::r=>by simp only [Rows.uptoBulkEntries,U5,aB9 x,ary r]
theorem aB9 {H:Type}:∀ x:Lit × DataW H,Rows.uptoBulkEntry x=ao0 x
 |(l,d)=>by cases l<;>simp only [Rows.uptoBulkEntry,ao0,Vx d]
end
theorem as4 {H:Type} {l:List (DataW H)} (h:Rows.uptoSmall H l=true):oh l≤1048576:=by
 have:=of_decide_eq_true h
 rwa [O4] at this
theorem aom {H:Type} {enc:TypeId × Value→H} {C:Checked} {os:Os} {f:FuncId} {fn:Func} {s:OpenSpec} {k:(H:Type)→List (DataW H)→Bool} (hk:s.cond=some k) {conds:List PathCond} {apart:Bool} (modest:Bool) (i:Input) (fuel:Nat)
 (hv:(World.plainHolding C.prog os i).variablesB C.prog=true)
 (hr:((World.plainHolding C.prog os i).heap.toList.drop C.prog.globals.size).take ((begin C.prog (fun _ _=>0) default).world.heap.size - C.prog.globals.size) =
  (begin C.prog (fun _ _=>0) default).world.heap.toList.drop C.prog.globals.size)
 (hok:Input.okWideB C.prog (World.plainHolding C.prog os i) f ⟨#[],i.args,[]⟩=true)
 (hx:(match DataW.whole enc C.prog (World.plainHolding C.prog os i).memory fn.params.toList s.vars apart i.args.toList fuel with
  |some x=>conds.all (PathCond.test C.prog ⟨fn.params.toList,x.1,s.bare.plain.varTypes C.prog,x.2.1⟩) && k H (x.1++x.2.1)
  |none=>false)=true)
 (hsz:s.bare.sizedB enc C.prog fn apart (World.plainHolding C.prog os i).memory i.args fuel=true) :
 ∃ (w:World) (tape:Tape) (i:Input),w.os=os∧(w.forCall tape i).Shaped C.prog∧i.vars=[]∧Input.okWide C.prog (w.forCall tape i) .any w.heap.size f i ∧
  s.pre6 enc C.prog fn conds apart (w.forCall tape i).memory i.args∧({ modest:=modest }:Assume).holds C.prog (lone (Frame.enter C.prog f i.args .normal) [] (w.forCall tape i)):=by
 cases hd:DataW.whole enc C.prog (World.plainHolding C.prog os i).memory fn.params.toList s.vars apart i.args.toList fuel with
 |none=>rw [hd] at hx;cases hx
 |some x=>
  rw [hd] at hx
  simp only [Bool.and_eq_true] at hx
  exact OpenSpec.witness hk modest i fuel hv hr hok hd hx.1 hx.2 hsz
end Go.Proofs.YtajammoepjpiiaaGreat
end
section
set_option maxRecDepth 2000000
namespace Go.Proofs.YtajammoepjpiiaaGreat.lookupHosts
open Go.Vm Go.ChangeShapes Go.WideShapes Go.ChangeAt
theorem aE9:aj PP [known21,azb,ayn,aec,lOf,Vz]:=(aj.cons (ai (fun x r h=>by cases h;exact ai2)) (aj.cons (ai apo) (aj.cons (ai ao8) (aj.cons (ai Sn) (aj.cons (ai awd) (aj.cons (ai Up) (aj.nil PP)))))))
theorem Tc (x:bk × Name × UInt16 × List Int × Unit) (h:(I4 x.1+(qp x.2.1+(Fq x.2.2.1+(au5 x.2.2.2.1+0))))≤1048576):bc PP 7 ((aC cr (aC aw (aC da (aC anl a0)))).E x) (.sc (.bool true)):=
 ba aE9 Tryz.func7 (by kernel_rfl) (by kernel_rfl) (by kernel_rfl) (Nat.le_of_ble_eq_true (by kernel_rfl)) (r1 bn) true true (au1 x.1 x.2.1 x.2.2.1 x.2.2.2.1 (ake (by omega)) (aob (by omega)) (by have h1:=ahf x.1;have h2:=aei x.2.2.2.1;have h3:=aei x.2.2.2.1;omega))
theorem own:ownKnob PP.godebug=none:=by kernel_rfl
theorem aAz:PP.underlying 4=some .bool:=by kernel_rfl
theorem lifted (os:Os) (started:os.Started) (H:Type) (enc:TypeId × Value→H) (F:Stop.Interp) :
 ReturnsInHanded {} Tryz.checked os 7 .any ((Rows.OpenSpec.upto Rows.lookupHostsSpec).pre6 enc Tryz.prog Tryz.f7 Rows.lookupHostsUptoRow.domain false) (((Rows.OpenSpec.upto Rows.lookupHostsSpec).at F).post enc Tryz.prog Tryz.f7 false true false false):=by
 refine returnsInHanded_of_cond (C:=Tryz.checked) (k:=Rows.uptoSmall) rfl own started (by kernel_rfl) Tryz.func7
  (aom (enc:=enc) (C:=Tryz.checked) rfl false ⟨#[],Tryz.f7.params.map fun t=>((PP.info? t).bind (·.zero)).getD undef,[]⟩ 8 (by kernel_rfl) (by kernel_rfl) (by kernel_rfl) (by kernel_rfl) (by kernel_rfl)) ?_
 intro W base args ds gs before hval hW _ hk _
 exact awt (by kernel_rfl) (by kernel_rfl) (ab8 (by kernel_rfl)) (tb:=4) (by kernel_rfl) rfl (by kernel_rfl) aAz (apl (by kernel_rfl))
  (fun H ds hl=>by match ds,(show ds.length=4 from hl) with | [_,_,_,_],_=>rfl) (A:=(aC cr (aC aw (aC da (aC anl a0))))) (Lk (by kernel_rfl) aAw (Lk (by kernel_rfl) U8 (Lk (by kernel_rfl) arw (Lk (by kernel_rfl) ate (azm PP))))) (N:=some 1048576) (fun x hx=>Tc x (hx _ rfl)) enc W base args ds gs before hval hW (fun n hn=>by cases hn;exact as4 hk)
theorem over:Rows.lookupHostsUptoRow.holds Tryz.pinned (Rows.OpenSpec.upto Rows.lookupHostsSpec):=
 OpenClaim.holds_of_cond 7 Tryz.f7 rfl rfl rfl rfl rfl rfl rfl ⟨rfl,rfl,rfl,rfl,rfl⟩ rfl rfl rfl rfl rfl (by kernel_rfl) Tryz.func7 (by kernel_rfl)
  (of_decide_eq_true (by kernel_rfl)) (by unfold Func.isWrapper;first|(rw [if_pos (by decide +kernel)];kernel_rfl)|(rw [if_neg (by decide +kernel)];exact ⟨rfl,rfl⟩))
  (fun os started H enc _ F=>lifted os started H enc F)
theorem proved : Rows.LookupHostsUptoSaid := over
end Go.Proofs.YtajammoepjpiiaaGreat.lookupHosts
end
