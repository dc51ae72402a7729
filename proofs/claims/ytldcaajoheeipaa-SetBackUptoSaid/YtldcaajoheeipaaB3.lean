/- A piece of the proof. Proved: where the arguments are together of bulk at most 1048576, the law SetBack returns true (the records of a set make it again), and what it was given reads afterwards as it did before. No other conditions. -/
import Derived.WalkKit
import Derived.CallsIn
import Derived.RangeFuncIn
import Derived.RangeFuncLeaves
import Derived.Orders
import Derived.OrdersIn
import Derived.Scope
import Derived.RangeFuncOwn
import Derived.Stop.SameAnswer
import Derived.Laws.Externs
import Derived.Lib.Bytealg
import Derived.ProofKit
import Derived.OpenShut
import Derived.ReadAgain
import Derived.Deep.Slices
import Derived.ChangeSame
import Derived.Test.YtldcaajoheeipaaProg
import Derived.KernelRfl
import Derived.Test.YtldcaajoheeipaaRows
import Derived.Maps.RangeRun
import Derived.JoinedCond
import Derived.Test.YtldcaajoheeipaaB2
set_option linter.unusedSimpArgs false
set_option linter.unusedVariables false
section
namespace Go.Proofs.Ytldcaajoheeipaa
open Go.Vm
set_option maxRecDepth 2000000
theorem Zg (d:bc) (hd:cj d):wl PP [Xk,Th,Zw,wj] 0 (Try.f18.body.getD .skip) (er PP Try.f18.results.toList (fun r st=>(r1 ag).get true st.h r=some d)) (cg 0 [ag.val false d]) (bh []):=by
 have hl:=hd.lens
 have l2:=hl.2.1
 have l3:=hl.2.2.1
 have l4:=hl.2.2.2
 unfold Try.f18
 simp only [js,dc]
 simp only [↓wR,RA,simprocAttr,TF]
 refine ⟨by kernel_rfl,.inl ?_⟩
 simp only [↓wR,RA,simprocAttr,TF,uk,uq,wm,l2,l3,l4]
 refine ⟨by kernel_rfl,?_⟩
 refine om [2,17,18,19,3] (fun (x:List Name)=>[.ptr 0 0,.vl false 1 (d.names.map (aw.val false)),.sc (.int .i64 (d.names.length)),.sc (.int .i64 (x.length)),.ptr 1 0]) (fun x=>[some (.row [.sc (.slice none 0 0),.sc (.slice none 0 0),.sc (.slice none 0 0),.sc (.slice none 0 0)] 0 2 50),some (.row [.sl 2 0 x.length 1,.vl true 1 (d.nums.map (bz.val false)),.vl true 1 (d.texts.map (an.val false)),.vl true 1 (d.raw.map (ba.val false))] 0 2 50),some (.row (x.map (aw.val true)) 0 0 23)]) (fun x=>x.length≤d.names.length∧x++d.names.drop x.length=d.names) (fun x=>d.names.length - x.length) [] ⟨Nat.zero_le _,rfl⟩ (by simp only [↓wR,RA,simprocAttr,TF];(refine v7.lax [] (by first|exact Nat.le_of_ble_eq_true rfl|(simp [bo];omega)) ?_ ?_<;>repeat' first|exact kj.nil|exact dn.nil|exact mf.same _|exact mf.nil _ _ _|exact mf.Br _ _|exact dn.refl _ _|apply kj.cons|apply dn.ghost|apply dn.same|apply dn.row)) ?_
 rintro x ⟨hi,hx⟩
 simp only [↓wR,RA,simprocAttr,TF]
 rw [b8];refine ⟨fun h=>?_,fun h=>?_⟩
 ·obtain ⟨c,hc,hd1,hlt⟩:=ik (decide_eq_true h)
  rw [hd1] at hx
  have hlim:(x.length+1) * 24≤140737488355328:=by omega
  simp only [↓wR,RA,simprocAttr,TF,h,hc]
  refine ⟨by kernel_rfl,.inl ?_⟩
  simp only [↓wR,RA,simprocAttr,TF,l9,hd.name c (List.mem_of_getElem? hc),hlim]
  refine ⟨by kernel_rfl,?_⟩
  exact ⟨x++[c],⟨by simp;omega,by simpa using hx⟩,by simp;omega,by (first|rfl|trivial|omega|((try (simp (disch:=omega) only [aj]));(try (simp only [FB]));first|done|rfl|omega)),by (first|rfl|trivial|omega|((try (simp (disch:=omega) only [aj]));(try (simp only [FB]));first|done|rfl|omega))⟩
 ·rw [oj (decide_eq_false h)] at hx
  rw [List.append_nil] at hx
  subst hx
  simp only [↓wR,RA,simprocAttr,TF,h]
noncomputable def ma (x:bc × Unit):Option AV:=if cj x.1 then some ((r1 ag).E true (x.1)) else none
set_option maxRecDepth 2000000 in
theorem ym (x:bc × Unit) (r:AV) (h:ma x=some r):ca PP 18 ((aC ag a0).E x) r:=by
 by_cases hc:cj x.1
 case neg=>simp only [ma,if_neg hc] at h;cases h
 simp only [ma,if_pos hc] at h
 cases h
 exact bk (ar.cons (ay Ey) (ar.cons (ay Fe) (ar.cons (ay F7) (ar.cons (ay qi) (ar.nil PP))))) Try.func18 (by kernel_rfl) (by kernel_rfl) (by kernel_rfl) (Nat.le_of_ble_eq_true (by kernel_rfl)) (r1 ag) true (x.1) (Zg x.1 hc)
noncomputable abbrev Dq:Nat × Bool × (List AV→M AV):=(18,true,dw (aC ag a0) ma)
def nm {α:Type} (f : α → α) (l:List α) (i:Nat):List α:=(l.take i).map f++l.drop i
theorem abx {α:Type} (f : α → α) (l:List α) (i:Nat):(nm f l i).length=l.length:=by simp [nm];omega
theorem acf {α:Type} (f : α → α) {l:List α} {i:Nat} {c : α} (h:l[i]? = some c):(nm f l i)[i]? = some c:=by
 obtain ⟨hi,rfl⟩:=List.getElem?_eq_some_iff.1 h
 have hl:((l.take i).map f).length=i:=by simp;omega
 rw [nm,List.getElem?_append_right (by omega),hl,Nat.sub_self,List.getElem?_drop];simp [h]
theorem adb {α:Type} (f : α → α) {l:List α} {i:Nat} {c : α} (h:l[i]? = some c):(nm f l i).take i++[f c]++(nm f l i).drop (i+1)=nm f l (i+1):=by
 obtain ⟨hi,rfl⟩:=List.getElem?_eq_some_iff.1 h
 have h1:((l.take i).map f).length=i:=by simp;omega
 have h2:(nm f l i).take i=(l.take i).map f:=by rw [nm,List.take_append_of_le_length (by omega),List.take_of_length_le (by omega)]
 have h3:(nm f l i).drop (i+1)=l.drop (i+1):=by
  rw [nm,List.drop_append,List.drop_eq_nil_of_le (by omega),h1]
  simp
 rw [h2,h3,nm,List.take_succ_eq_append_getElem hi,List.map_append]
 rfl
theorem acn {α:Type} (f : α → α) (l:List α):nm f l l.length=l.map f:=by simp [nm]
noncomputable def il (t:UInt16) (d:bc):bc:=if 0<(mh t).names then { d with names:=d.names.map fe } else d
theorem Ya (t:UInt16) (d:bc) (hd:cj d):wl PP [O7,Vc] 0 (Try.f49.body.getD .skip) (er PP Try.f49.results.toList (fun r st=>(r1 ag).get true st.h r=some (il t d))) (cg 0 [cp.val false t,ag.val false d]) (bh []):=by
 have hl:=hd.lens
 have l2:=hl.2.1
 have l3:=hl.2.2.1
 have l4:=hl.2.2.2
 unfold Try.f49
 simp only [js,dc]
 simp only [↓wR,RA,simprocAttr,TF]
 refine c8 (T:=[Xk,Th,Zw,wj]) (ar.cons (ay Ey) (ar.cons (ay Fe) (ar.cons (ay F7) (ar.cons (ay qi) (ar.nil PP))))) mixed Try.func18 rfl (by kernel_rfl) (by kernel_rfl) (by kernel_rfl) (by kernel_rfl) ?_;unfold Try.f18
 simp only [↓wR,RA,simprocAttr,TF]
 refine ⟨by kernel_rfl,.inl ?_⟩
 simp only [↓wR,RA,simprocAttr,TF,uk,uq,wm,l2,l3,l4]
 refine ⟨by kernel_rfl,?_⟩
 refine om [2,17,18,19,3] (fun (x:List Name)=>[.ptr 2 0,.vl false 1 (d.names.map (aw.val false)),.sc (.int .i64 (d.names.length)),.sc (.int .i64 (x.length)),.ptr 3 0]) (fun x=>[some (.row [.vl false 1 (d.names.map (aw.val false)),.vl false 1 (d.nums.map (bz.val false)),.vl false 1 (d.texts.map (an.val false)),.vl false 1 (d.raw.map (ba.val false))] 0 2 50),some (.row [.sc (.slice none 0 0),.sc (.slice none 0 0),.sc (.slice none 0 0),.sc (.slice none 0 0)] 0 2 50),some (.row [.sc (.slice none 0 0),.sc (.slice none 0 0),.sc (.slice none 0 0),.sc (.slice none 0 0)] 0 2 50),some (.row [.sl 4 0 x.length 1,.vl true 1 (d.nums.map (bz.val false)),.vl true 1 (d.texts.map (an.val false)),.vl true 1 (d.raw.map (ba.val false))] 0 2 50),some (.row (x.map (aw.val true)) 0 0 23)]) (fun x=>x.length≤d.names.length∧x++d.names.drop x.length=d.names) (fun x=>d.names.length - x.length) [] ⟨Nat.zero_le _,rfl⟩ (by simp only [↓wR,RA,simprocAttr,TF];(refine v7.lax [] (by first|exact Nat.le_of_ble_eq_true rfl|(simp [bo];omega)) ?_ ?_<;>repeat' first|exact kj.nil|exact dn.nil|exact mf.same _|exact mf.nil _ _ _|exact mf.Br _ _|exact dn.refl _ _|apply kj.cons|apply dn.ghost|apply dn.same|apply dn.row)) ?_
 rintro x ⟨hi,hx⟩
 simp only [↓wR,RA,simprocAttr,TF]
 rw [b8];refine ⟨fun h=>?_,fun h=>?_⟩
 ·obtain ⟨c,hc,hd1,hlt⟩:=ik (decide_eq_true h)
  rw [hd1] at hx
  have hlim:(x.length+1) * 24≤140737488355328:=by omega
  simp only [↓wR,RA,simprocAttr,TF,h,hc]
  refine ⟨by kernel_rfl,.inl ?_⟩
  simp only [↓wR,RA,simprocAttr,TF,l9,hd.name c (List.mem_of_getElem? hc),hlim]
  refine ⟨by kernel_rfl,?_⟩
  exact ⟨x++[c],⟨by simp;omega,by simpa using hx⟩,by simp;omega,by (first|rfl|trivial|omega|((try (simp (disch:=omega) only [aj]));(try (simp only [FB]));first|done|rfl|omega)),by (first|rfl|trivial|omega|((try (simp (disch:=omega) only [aj]));(try (simp only [FB]));first|done|rfl|omega))⟩
 rw [oj (decide_eq_false h)] at hx
 rw [List.append_nil] at hx
 subst hx
 simp only [↓wR,RA,simprocAttr,TF,h,z7,zv]
 unfold il
 clear hi h
 rw [b8];refine ⟨fun h0=>?_,fun h0=>?_⟩
 ·rw [if_pos h0]
  simp only [↓wR,RA,simprocAttr,TF,h0]
  refine dq [4,5,15,16,17] (fun (i:Nat)=>[.ptr 0 0,.ptr 1 0,.sl 2 0 d.names.length 1,.sc (.int .i64 (d.names.length)),.sc (.int .i64 (i))]) (fun i=>[some (.row [.sc (.slice none 0 0),.sc (.slice none 0 0),.sc (.slice none 0 0),.sc (.slice none 0 0)] 0 2 50),some (.row [.sl 2 0 d.names.length 1,.vl true 1 (d.nums.map (bz.val false)),.vl true 1 (d.texts.map (an.val false)),.vl true 1 (d.raw.map (ba.val false))] 0 2 50),some (.row ((nm fe d.names i).map (aw.val true)) 0 0 23)]) (fun i=>i≤d.names.length) (fun i=>d.names.length - i) 0 (Nat.zero_le _) (by simp only [↓wR,RA,simprocAttr,TF]<;>rfl) (by simp only [↓wR,RA,simprocAttr,TF]<;>rfl) ?_
  intro i hi
  simp only [↓wR,RA,simprocAttr,TF]
  rw [b8];refine ⟨fun h=>?_,fun h=>?_⟩
  ·obtain ⟨c,hc,hd1,hlt⟩:=ik (decide_eq_true h)
   have hs:=acf fe hc
   have hlen:=abx fe d.names i
   have hlt':i+1≤d.names.length:=hlt
   simp only [↓wR,RA,simprocAttr,TF,h,hs,hlt]
   refine ⟨by kernel_rfl,.inl ?_⟩
   simp only [↓wR,RA,simprocAttr,TF,h,hlt,hlt',hlen,uj,hd.name c (List.mem_of_getElem? hc)]
   refine ⟨by kernel_rfl,i+1,hlt,by omega,by (first|rfl|trivial|omega|((try (simp (disch:=omega) only [aj]));(try (simp only [FB]));first|done|rfl|omega)),?_⟩
   rw [← adb fe hc];simp only [List.map_append,List.map_cons,List.map_nil]
  ·have hin:i=d.names.length:=by omega
   subst hin
   rw [acn]
   have hml:(d.names.map fe).length=d.names.length:=List.length_map _
   generalize d.names.map fe=m at hml ⊢
   simp only [↓wR,RA,simprocAttr,TF,h,hml]
   rfl
 ·rw [if_neg h0]
  simp only [↓wR,RA,simprocAttr,TF,h0]
noncomputable def xu (x:UInt16 × bc × Unit):Option AV:=if cj x.2.1 then some ((r1 ag).E true (il x.1 x.2.1)) else none
set_option maxRecDepth 2000000 in
theorem Sk (x:UInt16 × bc × Unit) (r:AV) (h:xu x=some r):ca PP 49 ((aC cp (aC ag a0)).E x) r:=by
 by_cases hc:cj x.2.1
 case neg=>simp only [xu,if_neg hc] at h;cases h
 simp only [xu,if_pos hc] at h
 cases h
 exact bk (ar.cons (ay z4) (ar.cons (ay E6) (ar.nil PP))) Try.func49 (by kernel_rfl) (by kernel_rfl) (by kernel_rfl) (Nat.le_of_ble_eq_true (by kernel_rfl)) (r1 ag) true (il x.1 x.2.1) (Ya x.1 x.2.1 hc)
noncomputable abbrev ajo:Nat × Bool × (List AV→M AV):=(49,true,dw (aC cp (aC ag a0)) xu)
def mr:List Name→Int
 | []=>0
 |n::r=>if di n≠0 then di n else mr r
noncomputable def db (t:UInt16) (d:bc):Int:=
 if Ct t=true then 6 else if xo (mh t) t d=false then 7 else if mr d.names≠0 then mr d.names else if 65535<(vq t d).length then 3 else 0
theorem Yf {l:List Name} {i:Nat} {c:Name} (h:l.drop i=c::l.drop (i+1)):mr (l.drop i)=if di c≠0 then di c else mr (l.drop (i+1)):=by rw [h];rfl
theorem Wv (t:UInt16) (d:bc) (hd:cj d):wl PP [aod,O7,apg,xz,K9] 0 (Try.f15.body.getD .skip) (er PP Try.f15.results.toList (fun r st=>(r1 (c7 .i64)).get true st.h r=some (db t d))) (cg 0 [cp.val false t,ag.val false d]) (bh []):=by
 have hs:=Mm t
 have hl:=hd.lens
 unfold Try.f15
 simp only [js,dc]
 simp only [↓wR,RA,simprocAttr,TF,Od]
 unfold db
 rw [ew];refine ⟨fun hb=>?_,fun hb=>?_⟩
 ·rw [if_pos hb]
  simp only [↓wR,RA,simprocAttr,TF,hb]
 rw [if_neg (by rw [hb];decide)]
 simp only [↓wR,RA,simprocAttr,TF,hb]
 refine ⟨by kernel_rfl,.inl ?_⟩
 simp only [↓wR,RA,simprocAttr,TF,z7,Fq,hs,hd]
 refine ⟨by kernel_rfl,?_⟩
 rw [ew];refine ⟨fun hf=>?_,fun hf=>?_⟩
 ·rw [if_pos (by simpa using hf)]
  simp only [↓wR,RA,simprocAttr,TF,hf]
 have hf':xo (mh t) t d=true:=by simpa using hf
 rw [if_neg (by rw [hf'];decide)]
 simp only [↓wR,RA,simprocAttr,TF,hf]
 refine dq [0,3,17,18,19] (fun (i:Nat)=>[.sc (.int .u16 t.toNat),.ptr 0 0,.vl false 1 (d.names.map (aw.val false)),.sc (.int .i64 (d.names.length)),.sc (.int .i64 (i))]) (fun _=>[some (.row [.vl false 1 (d.names.map (aw.val false)),.vl false 1 (d.nums.map (bz.val false)),.vl false 1 (d.texts.map (an.val false)),.vl false 1 (d.raw.map (ba.val false))] 0 2 50)]) (fun i=>i≤d.names.length∧mr d.names=mr (d.names.drop i)) (fun i=>d.names.length - i) 0 ⟨Nat.zero_le _,rfl⟩ (by simp only [↓wR,RA,simprocAttr,TF]<;>rfl) (by simp only [↓wR,RA,simprocAttr,TF]<;>rfl) ?_
 rintro i ⟨hi,hx⟩
 simp only [↓wR,RA,simprocAttr,TF]
 rw [b8];refine ⟨fun h=>?_,fun h=>?_⟩
 ·obtain ⟨c,hc,hd1,hlt⟩:=ik (decide_eq_true h)
  rw [Yf hd1] at hx
  simp only [↓wR,RA,simprocAttr,TF,h,hc,kq,(hd.name c (List.mem_of_getElem? hc)).fit]
  rw [ew];refine ⟨fun h1=>?_,fun h1=>?_⟩
  ·have he:di c≠0:=by simpa using h1
   rw [if_pos he] at hx
   rw [if_pos (by rw [hx];exact he),hx]
   simp only [↓wR,RA,simprocAttr,TF,h1]
  ·have he:di c=0:=by simpa using h1
   rw [if_neg (by omega)] at hx
   simp only [↓wR,RA,simprocAttr,TF,h1];repeat (simp (disch:=omega) only [aj,bt,br,bw,bu];try simp only [↓wR,RA,simprocAttr,TF,h1])
   exact ⟨i+1,⟨hlt,hx⟩,by omega,by (first|rfl|trivial|omega|((try (simp (disch:=omega) only [aj]));(try (simp only [FB]));first|done|rfl|omega))⟩
 rw [oj (decide_eq_false h)] at hx
 rw [if_neg (by rw [hx];decide)]
 simp only [↓wR,RA,simprocAttr,TF,h,qq,hd]
 rw [b8];refine ⟨fun h2=>?_,fun h2=>?_⟩
 ·rw [if_pos (by omega)]
  simp only [↓wR,RA,simprocAttr,TF,h2]
 ·rw [if_neg (by omega)]
  simp only [↓wR,RA,simprocAttr,TF,h2]
noncomputable def jb (x:UInt16 × bc × Unit):Option AV:=if cj x.2.1 then some ((r1 (c7 .i64)).E true (db x.1 x.2.1)) else none
set_option maxRecDepth 2000000 in
theorem pg (x:UInt16 × bc × Unit) (r:AV) (h:jb x=some r):ca PP 15 ((aC cp (aC ag a0)).E x) r:=by
 by_cases hc:cj x.2.1
 case neg=>simp only [jb,if_neg hc] at h;cases h
 simp only [jb,if_pos hc] at h
 cases h
 exact bk (ar.cons (ay Za) (ar.cons (ay z4) (ar.cons (ay acw) (ar.cons (ay sq) (ar.cons (ay Bj) (ar.nil PP)))))) Try.func15 (by kernel_rfl) (by kernel_rfl) (by kernel_rfl) (Nat.le_of_ble_eq_true (by kernel_rfl)) (r1 (c7 .i64)) true (db x.1 x.2.1) (Wv x.1 x.2.1 hc)
noncomputable abbrev uf:Nat × Bool × (List AV→M AV):=(15,true,dw (aC cp (aC ag a0)) jb)
noncomputable def lh (t:UInt16) (d:bc):List UInt8:=if db t d≠0 then [] else vq t d
theorem V3 (t:UInt16) (d:bc) (hd:cj d):wl PP [uf,K9] 0 (Try.f48.body.getD .skip) (er PP Try.f48.results.toList (fun r st=>(r2 (b7 ba) (c7 .i64)).get true st.h r=some (lh t d,db t d))) (cg 0 [cp.val false t,ag.val false d]) (bh []):=by
 unfold Try.f48
 simp only [js,dc]
 simp only [↓wR,RA,simprocAttr,TF,jb,hd]
 unfold lh
 rw [ew];refine ⟨fun h=>?_,fun h=>?_⟩
 ·have he:db t d≠0:=by simpa using h
  rw [if_pos he]
  simp only [↓wR,RA,simprocAttr,TF,h]
 ·have he:db t d=0:=by simpa using h
  rw [if_neg (by omega)]
  simp only [↓wR,RA,simprocAttr,TF,h,qq,hd,he]
noncomputable def vj (x:UInt16 × bc × Unit):Option AV:=if cj x.2.1 then some ((r2 (b7 ba) (c7 .i64)).E true ((lh x.1 x.2.1,db x.1 x.2.1))) else none
set_option maxRecDepth 2000000 in
theorem Ow (x:UInt16 × bc × Unit) (r:AV) (h:vj x=some r):ca PP 48 ((aC cp (aC ag a0)).E x) r:=by
 by_cases hc:cj x.2.1
 case neg=>simp only [vj,if_neg hc] at h;cases h
 simp only [vj,if_pos hc] at h
 cases h
 exact bk (ar.cons (ay pg) (ar.cons (ay Bj) (ar.nil PP))) Try.func48 (by kernel_rfl) (by kernel_rfl) (by kernel_rfl) (Nat.le_of_ble_eq_true (by kernel_rfl)) (r2 (b7 ba) (c7 .i64)) true ((lh x.1 x.2.1,db x.1 x.2.1)) (V3 x.1 x.2.1 hc)
noncomputable abbrev ag9:Nat × Bool × (List AV→M AV):=(48,true,dw (aC cp (aC ag a0)) vj)
theorem aho (args:List AV):u5 PP 63 args (Cx.jh args):=
 Cx.zt (fn:=(PP.funcs[63]?).getD default) (by kernel_rfl) (by kernel_rfl) (by kernel_rfl) (by kernel_rfl) (by kernel_rfl) args
noncomputable abbrev am6:Nat × Bool × (List AV→M AV):=(63,true,Cx.jh)
theorem alj:ar PP [am6]:=ar.cons aho (ar.nil PP)
noncomputable def Ca (a b:List UInt8):Int:=Lib.compareBytes a b
theorem Li (a b:List UInt8):wl PP [am6] 0 (Try.f50.body.getD .skip) (er PP Try.f50.results.toList (fun r st=>(r1 (c7 .i64)).get true st.h r=some (Ca a b))) (cg 0 [(b7 ba).val false a,(b7 ba).val false b]) (bh []):=by
 unfold Try.f50
 simp only [p7]
 simp only [↓wR,RA,simprocAttr,TF,Ca]
noncomputable def tq (x:List UInt8 × List UInt8 × Unit):Option AV:=some ((r1 (c7 .i64)).E true (Ca x.1 x.2.1))
theorem Il (x:List UInt8 × List UInt8 × Unit) (r:AV) (h:tq x=some r):ca PP 50 ((aC (b7 ba) (aC (b7 ba) a0)).E x) r:=by
 cases h
 exact bk alj Try.func50 (by kernel_rfl) (by kernel_rfl) (by kernel_rfl) (Nat.le_of_ble_eq_true (by kernel_rfl)) (r1 (c7 .i64)) true (Ca x.1 x.2.1) (Li x.1 x.2.1)
noncomputable abbrev Vi:Nat × Bool × (List AV→M AV):=(50,true,dw (aC (b7 ba) (aC (b7 ba) a0)) tq)
theorem Pu (s:ByteArray):(fold s).size=s.size:=by
 show (s.data.toList.map low).toArray.size=s.data.size
 simp
theorem sx (n:Name):bj (fe n)=bj n:=by
 unfold bj fe
 rw [List.foldl_map]
 simp only [Pu]
theorem afz (l:List Name):jr bj (l.map fe)=jr bj l:=by
 induction l with
 |nil=>rfl
 |cons a l ih=>simp only [jr,List.map_cons,List.foldr_cons,sx] at ih ⊢;rw [ih]
theorem cj.fold {d:bc} (h:cj d) (t:UInt16):cj (il t d):=by
 unfold il
 split
 ·unfold cj vd at *
  simp only [afz];exact h
 ·exact h
noncomputable def wz (t:UInt16) (a b:bc):Int:=if db t (il t a)≠0∨db t (il t b)≠0 then 0 else Ca (lh t (il t a)) (lh t (il t b))
noncomputable def Bd (t:UInt16) (a b:bc):Bool:=decide (db t a=0) && decide (db t b=0) && decide (wz t a b=0)
theorem Oj (t:UInt16) (a b:bc) (ha:cj a) (hb:cj b):wl PP [ajo,ag9,Vi] 0 (Try.f26.body.getD .skip) (er PP Try.f26.results.toList (fun r st=>(r1 (c7 .i64)).get true st.h r=some (wz t a b))) (cg 0 [cp.val false t,ag.val false a,ag.val false b]) (bh []):=by
 have fa:=ha.fold t
 have fb:=hb.fold t
 unfold Try.f26
 simp only [js,dc]
 simp only [↓wR,RA,simprocAttr,TF,xu,vj,tq,ha,hb,fa,fb]
 unfold wz
 rw [ew];refine ⟨fun h=>?_,fun h=>?_⟩
 ·have he:db t (il t a)≠0:=by simpa using h
  rw [if_pos (.inl he)]
  simp only [↓wR,RA,simprocAttr,TF,h]
 have he:db t (il t a)=0:=by simpa using h
 simp only [↓wR,RA,simprocAttr,TF,h]
 rw [ew];refine ⟨fun h2=>?_,fun h2=>?_⟩
 ·have he2:db t (il t b)≠0:=by simpa using h2
  rw [if_pos (.inr he2)]
  simp only [↓wR,RA,simprocAttr,TF,h2]
 ·have he2:db t (il t b)=0:=by simpa using h2
  rw [if_neg (by omega)]
  simp only [↓wR,RA,simprocAttr,TF,h2,tq]
noncomputable def o9 (x:UInt16 × bc × bc × Unit):Option AV:=if cj x.2.1∧cj x.2.2.1 then some ((r1 (c7 .i64)).E true (wz x.1 x.2.1 x.2.2.1)) else none
set_option maxRecDepth 2000000 in
theorem zo (x:UInt16 × bc × bc × Unit) (r:AV) (h:o9 x=some r):ca PP 26 ((aC cp (aC ag (aC ag a0))).E x) r:=by
 by_cases hc:cj x.2.1∧cj x.2.2.1
 case neg=>simp only [o9,if_neg hc] at h;cases h
 simp only [o9,if_pos hc] at h
 cases h
 exact bk (ar.cons (ay Sk) (ar.cons (ay Ow) (ar.cons (ay Il) (ar.nil PP)))) Try.func26 (by kernel_rfl) (by kernel_rfl) (by kernel_rfl) (Nat.le_of_ble_eq_true (by kernel_rfl)) (r1 (c7 .i64)) true (wz x.1 x.2.1 x.2.2.1) (Oj x.1 x.2.1 x.2.2.1 hc.1 hc.2)
noncomputable abbrev J2:Nat × Bool × (List AV→M AV):=(26,true,dw (aC cp (aC ag (aC ag a0))) o9)
theorem Yh (t:UInt16) (a b:bc) (ha:cj a) (hb:cj b):wl PP [uf,J2] 0 (Try.f35.body.getD .skip) (er PP Try.f35.results.toList (fun r st=>(r1 cd).get true st.h r=some (Bd t a b))) (cg 0 [cp.val false t,ag.val false a,ag.val false b]) (bh []):=by
 unfold Try.f35
 simp only [js,dc]
 simp only [↓wR,RA,simprocAttr,TF,jb,ha,hb]
 unfold Bd
 rw [dy];refine ⟨fun ⟨h,e⟩=>?_,fun ⟨h,e⟩=>?_⟩
 ·rw [decide_eq_true e]
  simp only [↓wR,RA,simprocAttr,TF,h,jb,ha,hb]
  rw [dy];refine ⟨fun ⟨h2,e2⟩=>?_,fun ⟨h2,e2⟩=>?_⟩
  ·rw [decide_eq_true e2]
   simp only [↓wR,RA,simprocAttr,TF,h2,o9,ha,hb]
   rfl
  ·rw [decide_eq_false e2]
   simp only [↓wR,RA,simprocAttr,TF,h2]
   rfl
 ·rw [decide_eq_false e]
  simp only [↓wR,RA,simprocAttr,TF,h]
  rfl
noncomputable def xy (x:UInt16 × bc × bc × Unit):Option AV:=if cj x.2.1∧cj x.2.2.1 then some ((r1 cd).E true (Bd x.1 x.2.1 x.2.2.1)) else none
set_option maxRecDepth 2000000 in
theorem S4 (x:UInt16 × bc × bc × Unit) (r:AV) (h:xy x=some r):ca PP 35 ((aC cp (aC ag (aC ag a0))).E x) r:=by
 by_cases hc:cj x.2.1∧cj x.2.2.1
 case neg=>simp only [xy,if_neg hc] at h;cases h
 simp only [xy,if_pos hc] at h
 cases h
 exact bk (ar.cons (ay pg) (ar.cons (ay zo) (ar.nil PP))) Try.func35 (by kernel_rfl) (by kernel_rfl) (by kernel_rfl) (Nat.le_of_ble_eq_true (by kernel_rfl)) (r1 cd) true (Bd x.1 x.2.1 x.2.2.1) (Yh x.1 x.2.1 x.2.2.1 hc.1 hc.2)
noncomputable abbrev ajd:Nat × Bool × (List AV→M AV):=(35,true,dw (aC cp (aC ag (aC ag a0))) xy)
end Go.Proofs.Ytldcaajoheeipaa
end
section
set_option maxRecDepth 100000
namespace Go.Vm
noncomputable section
theorem alr {α:Type} (C:bq α) (fr:Bool) (h:Tr aq) (l:List AV) (ha:C.agg=true):C.dec fr h l=C.gj fr h (.agg l):=by
 rw [D9 _ _ _ _ rfl (by rw [ha];rfl)];rfl
theorem aqc {α β:Type} (A:bq α) (B:bq β) (fr:Bool) (h:Tr aq) (l:List AV):(k9 A B).dec fr h l=match A.dec fr h (l.take A.sz),B.dec fr h (l.drop A.sz) with|some x,some y=>some (x,y)|_,_=>none:=rfl
theorem aom {α:Type} (C:bq α) (fr h) (x:AV):(b7 C).dec fr h [x]=gn C fr h x:=rfl
theorem aoj (fr h) (x:AV):aw.dec fr h [x]=gn an fr h x:=rfl
def pv (n:Nat) (r:AV) (st:St):List Nat:=reach st.h dp (r.names++nk st.h (cq 0 n)) (cq 0 n)
def ue (n:Nat) (r:AV) (st:St):AV:=r.b9 (fun o=>idx (pv n r st) o 0)
def si (n:Nat) (r:AV) (st:St):St:=bh (gp st.h (fun o=>idx (pv n r st) o 0) (pv n r st))
theorem aac {g g':Gh} {st st':St} {w w':World} {r:AV} {v:Value} (hn:st.nx≤1000) (hfr:∀ o,st.nx≤o→g.inj o=none) (hs:Step g st.h w st.nx st'.nx g' st'.h w') (hok:Ok g' st'.h w') (hr:Rel g' w' r v) :
 ∃ g'',st.nx≤(si st.nx r st').nx∧Step g st.h w st.nx (si st.nx r st').nx g'' (si st.nx r st').h w'∧Ok g'' (si st.nx r st').h w'∧Rel g'' w' (ue st.nx r st') v:=by
 have hN:=ye st'.h dp (r.names++nk st'.h (cq 0 st.nx)) (cq 0 st.nx) (ph _ _)
 change (pv st.nx r st').Nodup∧(∃ q,pv st.nx r st'=cq 0 st.nx++q)∧(pv st.nx r st').length≤_ at hN
 have hτ:∀ o p,(fun o=>idx (pv st.nx r st') o 0) o=some p→(pv st.nx r st')[p]? = some o:=fun o p h=>Dd _ o p h
 unfold si ue
 generalize pv st.nx r st'=N at hN hτ
 obtain ⟨hnd,⟨rest,hpre⟩,hlen⟩:=hN
 rw [i5] at hlen
 have hlim:N.length≤bo:=by simp only [dp,bo] at *;omega
 have bp:∀ i x,(bh (gp st'.h (fun o=>idx N o 0) N)).h.get i=some x→∃ o y,N[i]? = some o∧st'.h.get o=some y∧y.b9 (fun o=>idx N o 0)=some x:=by
  intro i x hx
  simp only [bh] at hx
  rw [r9 _ _ _ (by rw [fy];omega),if_pos (Nat.zero_le _),Nat.sub_zero,sw] at hx
  cases hi:N[i]? with
  |none=>rw [hi] at hx;cases hx
  |some o=>
   rw [hi] at hx
   simp only [Option.map_some,Option.join_some] at hx
   cases hy:st'.h.get o with
   |none=>rw [hy] at hx;cases hx
   |some y=>rw [hy] at hx;exact ⟨o,y,rfl,hy,hx⟩
 have hinj:∀ i o,N[i]? = some o→(g'.b9 N).inj i=g'.inj o:=fun i o h=>by simp [Gh.b9,h]
 have hlow:∀ o,o<st.nx→N[o]? = some o:=fun o ho=>by rw [hpre,List.getElem?_append_left (by rw [i5];exact ho),D4 _ _ _ ho,Nat.zero_add]
 have hnx:(bh (gp st'.h (fun o=>idx N o 0) N)).nx=N.length:=by simp only [bh,fy]
 have hle:st.nx≤N.length:=by rw [hpre,List.length_append,i5];omega
 rw [hnx]
 refine ⟨g'.b9 N,hle,⟨⟨hs.ext.b0,fun o p ho=>?_,hs.ext.K,hs.ext.cell,hs.ext.jl,hs.ext.lp⟩,hs.size,hs.os,hs.tape,hs.output,hs.frame,fun o ho hr=>?_,fun i b base hi hj=>?_,hs.l5⟩,⟨hok.size,fun i x hx=>?_,fun i j x y b base base' hij hx hy hb hb'=>?_,hok.K⟩,hr.b9 hτ⟩
 ·have hlt:o<st.nx:=by
   rcases Nat.lt_or_ge o st.nx with h|h
   ·exact h
   ·rw [hfr o h] at ho;cases ho
  rw [hinj o o (hlow o hlt)];exact hs.ext.inj o p ho
 ·rcases Nat.lt_or_ge o st.nx with h|h
  ·rw [hinj o o (hlow o h)];exact hs.fresh o ho (by omega)
  ·simp [Gh.b9,List.getElem?_eq_none (show N.length≤o by omega)]
 ·obtain ⟨x,hx⟩:=Option.isSome_iff_exists.1 hi
  obtain ⟨o,y,h1,h2,_⟩:=bp i x hx
  rw [hinj i o h1] at hj
  exact hs.own o b base (by rw [h2];rfl) hj
 ·obtain ⟨o,y,h1,h2,h3⟩:=bp i x hx
  refine (hok.kn o y h2).imp (fun q=>⟨by rw [hinj i o h1];exact q.1,by obtain ⟨s0,e0,rfl⟩:=q.2;simp only [aq.b9,AV.b9.go,Option.some.injEq] at h3;exact ⟨s0,e0,h3.symm⟩⟩) ?_
  rintro ⟨b,base,q1,q2,q3⟩
  exact ⟨b,base,by rw [hinj i o h1];exact q1,q2,q3.b9 hτ h3⟩
 ·obtain ⟨o,y1,h1,h2,_⟩:=bp i x hx
  obtain ⟨o',y2,h1',h2',_⟩:=bp j y hy
  rw [hinj i o h1] at hb
  rw [hinj j o' h1'] at hb'
  have hne:o≠o':=by
   intro e
   subst e
   obtain ⟨hi,ei⟩:=List.getElem?_eq_some_iff.1 h1
   obtain ⟨hj,ej⟩:=List.getElem?_eq_some_iff.1 h1'
   exact hij ((List.getElem_inj hnd).1 (ei.trans ej.symm))
  exact hok.sep o o' _ _ b base base' hne h2 h2' hb hb'
theorem i9 {P:Program} {f:Nat} {args:List AV} {st:St} {R:AV→St→Prop} (R0:AV→St→Prop) (hn:Nat.ble st.nx 1000=true) (h1:fo P f args st (fun r st'=>R0 (ue st.nx r st') (si st.nx r st'))) (h2:∀ r st',R0 r st'→R r st'):fo P f args st R:=by
 intro g w vs hok hfr hrel
 rcases h1 g w vs hok hfr hrel with ⟨v,w',g',r,st',q1,q2,q3,q4,q5,q6⟩|⟨q1,q2⟩
 ·obtain ⟨g'',p1,p2,p3,p4⟩:=aac (Nat.le_of_ble_eq_true hn) hfr q4 q5 q6
  exact .inl ⟨v,w',g'',_,_,q1,h2 _ _ q2,p1,p2,p3,p4⟩
 ·refine .inr ⟨q1,q2.mono ?_⟩
  rintro e w' ⟨v,g',r,st',rfl,q2,q3,q4,q5,q6⟩
  obtain ⟨g'',p1,p2,p3,p4⟩:=aac (Nat.le_of_ble_eq_true hn) hfr q4 q5 q6
  exact ⟨v,g'',_,_,rfl,h2 _ _ q2,p1,p2,p3,p4⟩
theorem E4 (l) (n:Name):gq (aw.val l n)=some n.length:=by
 rw [dc];show some (List.map (an.val l) n).length=_;rw [List.length_map]
theorem Zl (a b:Operand):(#[a]++(none:Option Operand).toArray++(some b).toArray++(none:Option Operand).toArray).toList=[a,b]:=id rfl
theorem dv4 : 4 / 4=1:=rfl
theorem dv5 : 5 / 5=1:=rfl
theorem dv8 : 8 / 8=1:=rfl
theorem Eu (l:Bool) (d:bc):(ag.val l d).cells=[.vl l 1 (d.names.map (aw.val l)),.vl l 1 (d.nums.map (bz.val l)),.vl l 1 (d.texts.map (an.val l)),.vl l 1 (d.raw.map (ba.val l))]:=id rfl
theorem G4 (fr h l) (n:Name) (hl:(l || !fr)=true):gn an fr h (aw.val l n)=some n:=sy an fr h l n 1 rfl hl
def Ur {α:Type} (C:bq α) (h:Tr aq) (off:Nat) (x:aq):Option α:=
 match x with
 |.row cells _ _ _=>bif Nat.ble (off+C.sz) cells.length then C.dec false h ((cells.drop off).take C.sz) else none
 |_=>none
def Pg {α:Type} (C:bq α) (h:Tr aq) (a:AV):Option α:=
 match a with
 |.fv l=>bif Nat.ble C.sz l.length then C.dec false h (l.take C.sz) else none
 |.ptr o off=>(h.get o).bind (Ur C h off)
 |_=>none
theorem Kd {α:Type} (C:bq α) (h o off):Pg C h (.ptr o off)=(h.get o).bind (Ur C h off):=id rfl
theorem Pz {α:Type} (C:bq α) (h l):Pg C h (.fv l)=bif Nat.ble C.sz l.length then C.dec false h (l.take C.sz) else none:=id rfl
theorem J8 {α:Type} (C:bq α) (h off cells k s e):Ur C h off (.row cells k s e)=bif Nat.ble (off+C.sz) cells.length then C.dec false h ((cells.drop off).take C.sz) else none:=id rfl
theorem al1 {α:Type} (C:bq α) {g h w K b0 a v x} (hok:Ok g h w) (hl:tn g h K) (hr:Rel g w a v) (hd:Pg C h a=some x):Rel (gK b0 K) w (.fv (C.cells false x)) v:=by
 have fin:∀ (b off:Nat) (vs:List Value),az g w ((C.cells false x).map fun _=>AV.bad) vs→az (gK b0 K) w (C.cells false x) vs→(∀ j u,vs[j]? = some u→K b (off+j)∧w.cell? ⟨b,off+j,none⟩=some u)→Rel (gK b0 K) w (.fv (C.cells false x)) (.pointer (some ⟨b,off,none⟩)):=by
  intro b off vs _ hrl hc
  refine .fv _ b off (fun j=>vs.getD j undef) (fun j a hj=>?_) (fun j a hj=>?_)
  ·obtain ⟨u,hu,_⟩:=hrl.get hj
   have:=hc j u hu
   exact ⟨this.1,by rw [this.2,List.getD_eq_getElem?_getD,hu];rfl⟩
  ·obtain ⟨u,hu,hrel⟩:=hrl.get hj
   show Rel _ _ a (vs.getD j undef)
   rw [List.getD_eq_getElem?_getD,hu];exact hrel
 have bads:∀ vs:List Value,az (gK b0 K) w (C.cells false x) vs→az g w ((C.cells false x).map fun _=>AV.bad) vs:=fun vs h=>⟨by simpa using h.1,fun i a v ha _=>by
  rw [List.getElem?_map,Option.map_eq_some_iff] at ha
  obtain ⟨_,_,rfl⟩:=ha
  exact .bad _⟩
 cases hr with
 |fv l b off c h1 h2=>
  rw [Pz] at hd
  cases hb:Nat.ble C.sz l.length with
  |false=>rw [hb] at hd;cases hd
  |true=>
   rw [hb,cond_true] at hd
   have hle:=Nat.le_of_ble_eq_true hb
   have hlist:az g w (l.take C.sz) (kb 0 C.sz c):=by
    refine ⟨by simp [kb];omega,fun i a v ha hv=>?_⟩
    rw [List.getElem?_take] at ha
    by_cases hi:i<C.sz
    ·rw [if_pos hi] at ha
     simp only [kb,List.getElem?_map,List.getElem?_range hi,Option.map_some,Option.some.injEq,Nat.zero_add] at hv
     subst hv
     exact h2 i a ha
    ·rw [if_neg hi] at ha;cases ha
   have q:=C.ok (b0:=b0) hok hl (fun e=>by cases e) hlist hd
   refine fin b off _ (bads _ q) q (fun j u hu=>?_)
   have hj:j<C.sz:=by have:=(List.getElem?_eq_some_iff.1 hu).1;simpa [kb] using this
   simp only [kb,List.getElem?_map,List.getElem?_range hj,Option.map_some,Option.some.injEq,Nat.zero_add] at hu
   subst hu
   have:=h1 j _ (List.getElem?_eq_getElem (by omega))
   exact ⟨hl.K _ _ this.1,this.2⟩
 |ptr o off b base hi=>
  rw [Kd,Option.bind_eq_some_iff] at hd
  obtain ⟨y,hy,hd⟩:=hd
  obtain ⟨b',base',hi',hbb,hrow⟩:=hok.obj o y hy
  rw [hi] at hi';cases hi'
  cases y with
  |map es=>cases hd
  |loop=>cases hd
  |row cells k st et=>
   rw [J8] at hd
   cases hle:Nat.ble (off+C.sz) cells.length with
   |false=>rw [hle] at hd;cases hd
   |true=>
    rw [hle,cond_true] at hd
    have hle':=Nat.le_of_ble_eq_true hle
    obtain ⟨cs,fz,r1,r2,r3,_⟩:=hrow
    have hpart:az g w ((cells.drop off).take C.sz) (kb (base+off) C.sz (fun j=>cs.getD j undef)):=by
     refine ⟨by simp [kb];omega,fun i a v ha hv=>?_⟩
     rw [List.getElem?_take,List.getElem?_drop] at ha
     by_cases hil:i<C.sz
     ·rw [if_pos hil] at ha
      obtain ⟨u,hu,hrel⟩:=r3 _ a ha
      simp only [kb,List.getElem?_map,List.getElem?_range hil,Option.map_some,Option.some.injEq] at hv
      subst hv
      rw [Array.getD_eq_getD_getElem?,Nat.add_assoc,hu]
      exact hrel
     ·rw [if_neg hil] at ha;cases ha
    have q:=C.ok (b0:=b0) hok hl (fun e=>by cases e) hpart hd
    refine fin b (base+off) _ (bads _ q) q (fun j u hv=>?_)
    have hj:j<C.sz:=by have:=(List.getElem?_eq_some_iff.1 hv).1;simpa [kb] using this
    simp only [kb,List.getElem?_map,List.getElem?_range hj,Option.map_some,Option.some.injEq] at hv
    obtain ⟨u,hu,_⟩:=r3 (off+j) (cells[off+j]'(by omega)) (by simp)
    have hrows:=hl.rows o cells k st et hy b base hi (off+j) (by omega)
    rw [← Nat.add_assoc] at hrows hu
    refine ⟨hrows,?_⟩
    rw [ky r1,hu,← hv,Array.getD_eq_getD_getElem?,hu]
    rfl
 |_=>cases hd
def aP {α β:Type} (C:bq α) (R:AC β):AC (α × β) where
 E p:=.fv (C.cells false p.1)::R.E p.2
 D h l:=match l with
  | []=>none
  |a::r=>match Pg C h a,R.D h r with
   |some x,some y=>some (x,y)
   |_,_=>none
 rt h p:=by
  have:Pg C h (.fv (C.cells false p.1))=some p.1:=by
   rw [Pz,C.len,Nat.ble_self_eq_true,cond_true,List.take_of_length_le (by rw [C.len];exact Nat.le_refl _)]
   exact C.rt false h false p.1 (fun e=>by cases e)
  simp only [this,R.rt]
 ok:=by
  intro g h w K b0 l vs x hok hl hr hd
  match l,hd with
  |a::r,hd=>
   simp only at hd
   split at hd
   ·rename_i x1 y1 hx hy
    simp at hd;subst hd
    match vs,hr with
    | [],hr=>have:=hr.1;simp at this
    |v::vs,hr=>exact az.cons (al1 C hok hl hr.head hx) (R.ok hok hl hr.tail hy)
   ·cases hd
theorem aoc {α β:Type} (C:bq α) (R:AC β) (h:Tr aq) (a:AV) (r:List AV):(aP C R).get h (a::r)=match Pg C h a,R.get h r with|some x,some y=>some (x,y)|_,_=>none:=id rfl
theorem Fb (f) (l:List bc) (d:bc):cellsOf ag f (l++[d])=cellsOf ag f l++[.vl f 1 (d.names.map (aw.val f)),.vl f 1 (d.nums.map (bz.val false)),.vl f 1 (d.texts.map (an.val false)),.vl f 1 (d.raw.map (ba.val false))]:=by rw [B8,B2];rfl
structure bn where
 owner:Name
 type:UInt16
 cls:UInt16
 c0:UInt32
 data:List bc
def Bc (owner:Name) (type:UInt16) (cls:UInt16) (c0:UInt32) (data:List bc):bn:=⟨owner,type,cls,c0,data⟩
theorem aad (x:bn):Bc x.owner x.type x.cls x.c0 x.data=x:=id rfl
theorem aen (owner type cls c0 data):(Bc owner type cls c0 data).owner=owner:=id rfl
theorem aik (owner type cls c0 data):(Bc owner type cls c0 data).data=data:=id rfl
def cf:bq bn:=Dh (k9 aw (k9 cp (k9 cp (k9 bz (b7 ag))))) (fun x=>(x.owner,x.type,x.cls,x.c0,x.data)) (fun p=>⟨p.1,p.2.1,p.2.2.1,p.2.2.2.1,p.2.2.2.2⟩) (fun _=>rfl) (fun _=>rfl)
theorem ja (l:Bool) (x:bn):cf.val l x = .agg [.vl l 1 (x.owner.map (an.val l)),.sc (.int .u16 x.type.toNat),.sc (.int .u16 x.cls.toNat),.sc (.int .u32 x.c0.toNat),.vl l 4 (x.data.map (ag.val l))]:=id rfl
theorem Sl (l:Bool) (x:bn):cf.cells l x=[.vl l 1 (x.owner.map (an.val l)),.sc (.int .u16 x.type.toNat),.sc (.int .u16 x.cls.toNat),.sc (.int .u32 x.c0.toNat),.vl l 4 (x.data.map (ag.val l))]:=id rfl
theorem Qb:cf.sz=5:=id rfl
theorem El (fr:Bool) (h:Tr aq) (y0 y1 y2 y3 y4:AV):cf.gj fr h (.agg [y0,y1,y2,y3,y4])=match gn an fr h y0,cp.dec fr h [y1],cp.dec fr h [y2],bz.dec fr h [y3],gn ag fr h y4 with
 |some v0,some v1,some v2,some v3,some v4=>some (Bc v0 v1 v2 v3 v4)
 |_,_,_,_,_=>none:=by
 rw [D9 _ _ _ _ rfl rfl]
 have h1:cf.dec fr h (AV.agg [y0,y1,y2,y3,y4]).cells=Option.map (fun p=>(⟨p.1,p.2.1,p.2.2.1,p.2.2.2.1,p.2.2.2.2⟩:bn)) ((k9 aw (k9 cp (k9 cp (k9 bz (b7 ag))))).dec fr h [y0,y1,y2,y3,y4]):=rfl
 rw [h1]
 simp only [aqc,Ii,yu,ae7,Hj,acg,ahl,List.take_succ_cons,List.take_zero,List.drop_succ_cons,List.drop_zero,aom,aoj]
 cases (gn an fr h y0)<;>cases (cp.dec fr h [y1])<;>cases (cp.dec fr h [y2])<;>cases (bz.dec fr h [y3])<;>cases (gn ag fr h y4)<;>rfl
theorem I3 (fr:Bool) (h:Tr aq) (y0 y1 y2 y3 y4:AV):cf.dec fr h [y0,y1,y2,y3,y4]=match gn an fr h y0,cp.dec fr h [y1],cp.dec fr h [y2],bz.dec fr h [y3],gn ag fr h y4 with
 |some v0,some v1,some v2,some v3,some v4=>some (Bc v0 v1 v2 v3 v4)
 |_,_,_,_,_=>none:=(alr cf fr h _ rfl).trans (El fr h y0 y1 y2 y3 y4)
structure B7 where
 owner:Name
 type:UInt16
 cls:UInt16
 c0:UInt32
 data:bc
def Nl (owner:Name) (type:UInt16) (cls:UInt16) (c0:UInt32) (data:bc):B7:=⟨owner,type,cls,c0,data⟩
theorem P4 (owner type cls c0 data):(Nl owner type cls c0 data).owner=owner:=id rfl
theorem Xh (owner type cls c0 data):(Nl owner type cls c0 data).type=type:=id rfl
theorem aaz (owner type cls c0 data):(Nl owner type cls c0 data).cls=cls:=id rfl
theorem aa4 (owner type cls c0 data):(Nl owner type cls c0 data).c0=c0:=id rfl
theorem Uu (owner type cls c0 data):(Nl owner type cls c0 data).data=data:=id rfl
def oq:bq B7:=Dh (k9 aw (k9 cp (k9 cp (k9 bz ag)))) (fun x=>(x.owner,x.type,x.cls,x.c0,x.data)) (fun p=>⟨p.1,p.2.1,p.2.2.1,p.2.2.2.1,p.2.2.2.2⟩) (fun _=>rfl) (fun _=>rfl)
theorem Lz (l:Bool) (x:B7):oq.val l x = .agg [.vl l 1 (x.owner.map (an.val l)),.sc (.int .u16 x.type.toNat),.sc (.int .u16 x.cls.toNat),.sc (.int .u32 x.c0.toNat),.vl l 1 (x.data.names.map (aw.val l)),.vl l 1 (x.data.nums.map (bz.val l)),.vl l 1 (x.data.texts.map (an.val l)),.vl l 1 (x.data.raw.map (ba.val l))]:=id rfl
theorem Px:oq.sz=8:=id rfl
theorem Tg (l) (xs:List B7) (x:B7):cellsOf oq l (xs++[x])=cellsOf oq l xs++[.vl l 1 (x.owner.map (an.val false)),.sc (.int .u16 x.type.toNat),.sc (.int .u16 x.cls.toNat),.sc (.int .u32 x.c0.toNat),.vl l 1 (x.data.names.map (aw.val l)),.vl l 1 (x.data.nums.map (bz.val false)),.vl l 1 (x.data.texts.map (an.val false)),.vl l 1 (x.data.raw.map (ba.val false))]:=by rw [B8,B2];rfl
structure fp where
 origin:Name
 kf:List bn
structure akb where
 addr:UInt32
 ab8:List Int
structure U7 where
 ab8:List fp
 aol:List akb
 hints:List UInt32
structure Te where
 kind:Int
 node:Name
 Zq:Name
def U5 (kind:Int) (node:Name) (Zq:Name):Te:=⟨kind,node,Zq⟩
structure ad6 where
 turn:Int
 kf:List bn
 to:Name
def W6 (turn:Int) (kf:List bn) (to:Name):ad6:=⟨turn,kf,to⟩
structure Ft where
 akn:Int
 aa:Bool
 answer:List bn
 authority:List bn
 Dy:List bn
def Q7 (akn:Int) (aa:Bool) (answer:List bn) (authority:List bn) (Dy:List bn):Ft:=⟨akn,aa,answer,authority,Dy⟩
theorem ai:type_of% @E4∧type_of% @Zl∧type_of% @dv4∧type_of% @dv5∧type_of% @dv8∧type_of% @Kd∧type_of% @J8∧type_of% @aoc∧type_of% @G4∧type_of% @Eu∧type_of% @Ix∧type_of% @qs∧type_of% @pa∧type_of% @aad∧type_of% @I3∧type_of% @ja∧type_of% @Qb∧type_of% @El∧type_of% @P4∧type_of% @Xh∧type_of% @aaz∧type_of% @aa4∧type_of% @Uu∧type_of% @Lz∧type_of% @Px:=
 ⟨@E4,@Zl,@dv4,@dv5,@dv8,@Kd,@J8,@aoc,@G4,@Eu,@Ix,@qs,@pa,@aad,@I3,@ja,@Qb,@El,@P4,@Xh,@aaz,@aa4,@Uu,@Lz,@Px⟩
end
end Go.Vm
end
section
namespace Go.Proofs.Ytldcaajoheeipaa
open Go.Vm
set_option maxRecDepth 2000000
noncomputable def s9 (t:UInt16) (l:List bc) (d:bc):Bool:=l.any fun x=>Bd t x d
theorem ank (t:UInt16) (l:List bc) (d:bc) (hl:∀ x ∈ l,cj x) (hn:l.length≤16777216) (hd:cj d):wl PP [] 0 (Try.f16.body.getD .skip) (er PP Try.f16.results.toList (fun r st=>(r1 cd).get true st.h r=some (s9 t l d))) (cg 0 [cp.val false t,(b7 ag).val false l,ag.val false d]) (bh []):=by
 unfold Try.f16
 simp only [p7,js]
 simp only [↓wR,RA,simprocAttr,TF,ai]
 refine c8 (T:=[]) (ar.nil PP) mixed Try.func33 rfl (by kernel_rfl) (by kernel_rfl) (by kernel_rfl) (by kernel_rfl) ?_;unfold Try.f33
 simp only [↓wR,RA,simprocAttr,TF,ai]
 refine c8 (T:=[]) (ar.nil PP) mixed Try.func57 rfl (by kernel_rfl) (by kernel_rfl) (by kernel_rfl) (by kernel_rfl) ?_;unfold Try.f57
 simp only [↓wR,RA,simprocAttr,TF,ai]
 refine dq [0,1,7,8] (fun (i:Nat)=>[.vl false 4 (l.map (ag.val false)),.fn (.func 34) [] [.ptr 0 0,.ptr 1 0],.sc (.int .i64 (l.length)),.sc (.int .i64 (i))]) (fun _=>[some (.row [.sc (.int .u16 t.toNat)] 0 2 25),some (.row [.vl false 1 (d.names.map (aw.val false)),.vl false 1 (d.nums.map (bz.val false)),.vl false 1 (d.texts.map (an.val false)),.vl false 1 (d.raw.map (ba.val false))] 0 2 50)]) (fun i=>i≤l.length∧s9 t l d=s9 t (l.drop i) d) (fun i=>l.length - i) 0 ⟨Nat.zero_le _,rfl⟩ (by simp only [↓wR,RA,simprocAttr,TF,ai]<;>rfl) (by simp only [↓wR,RA,simprocAttr,TF,ai]<;>rfl) ?_
 rintro i ⟨hi,hx⟩
 simp only [↓wR,RA,simprocAttr,TF,ai]
 rw [b8];refine ⟨fun h=>?_,fun h=>?_⟩
 ·obtain ⟨c,hc,hd1,hlt⟩:=ik (decide_eq_true h)
  have hx':s9 t l d=(Bd t c d || s9 t (l.drop (i+1)) d):=by rw [hx,hd1];rfl
  simp only [↓wR,RA,simprocAttr,TF,ai,h,hc];repeat (simp (disch:=omega) only [aj,bt,br,bw,bu];try simp only [↓wR,RA,simprocAttr,TF,ai,h,hc])
  refine c8 (T:=[ajd]) (ar.cons (ay S4) (ar.nil PP)) mixed Try.func34 rfl (by kernel_rfl) (by kernel_rfl) (by kernel_rfl) (by kernel_rfl) ?_;unfold Try.f34
  simp only [↓wR,RA,simprocAttr,TF,ai,xy,hl c (List.mem_of_getElem? hc),hd]
  rw [ew];refine ⟨fun h1=>?_,fun h1=>?_⟩
  ·rw [h1,Bool.true_or] at hx'
   simp only [↓wR,RA,simprocAttr,TF,ai,h1]
   rw [hx']
   done
  ·rw [h1,Bool.false_or] at hx'
   simp only [↓wR,RA,simprocAttr,TF,ai,h1];repeat (simp (disch:=omega) only [aj,bt,br,bw,bu];try simp only [↓wR,RA,simprocAttr,TF,ai,h1])
   exact ⟨i+1,⟨hlt,hx'⟩,by omega,by (first|rfl|trivial|omega|((try (simp (disch:=omega) only [aj]));(try (simp only [FB]));first|done|rfl|omega))⟩
 ·rw [oj (decide_eq_false h)] at hx
  simp only [↓wR,RA,simprocAttr,TF,ai,h]
  rw [hx];rfl
def j3 (l:List bc):Prop:=jr vd l≤16777216
instance (l:List bc):Decidable (j3 l):=inferInstanceAs (Decidable (_≤_))
theorem j3.mem {l:List bc} (h:j3 l):∀ x ∈ l,cj x:=fun x hx=>by
 have h1:vd x<jr vd l:=O1 hx
 unfold j3 at h;unfold cj;omega
theorem j3.len {l:List bc} (h:j3 l):l.length≤16777216:=Nat.le_trans (Ox vd l) h
theorem ai0 {α:Type} (f : α→Nat) (l:List α) (i:Nat):jr f (l.take i)≤jr f l:=by
 induction l generalizing i with
 |nil=>simp
 |cons a l ih=>
  cases i with
  |zero=>exact Nat.zero_le _
  |succ i=>have:=ih i;simp only [jr,List.take_succ_cons,List.foldr_cons] at this ⊢;omega
theorem j3.take {l:List bc} (h:j3 l) (i:Nat):j3 (l.take i):=Nat.le_trans (ai0 vd l i) h
noncomputable def xc (x:UInt16 × List bc × bc × Unit):Option AV:=if j3 x.2.1∧cj x.2.2.1 then some ((r1 cd).E true (s9 x.1 x.2.1 x.2.2.1)) else none
set_option maxRecDepth 2000000 in
theorem Hr (x:UInt16 × List bc × bc × Unit) (r:AV) (h:xc x=some r):ca PP 16 ((aC cp (aC (b7 ag) (aC ag a0))).E x) r:=by
 by_cases hc:j3 x.2.1∧cj x.2.2.1
 case neg=>simp only [xc,if_neg hc] at h;cases h
 simp only [xc,if_pos hc] at h
 cases h
 exact bk (ar.nil PP) Try.func16 (by kernel_rfl) (by kernel_rfl) (by kernel_rfl) (Nat.le_of_ble_eq_true (by kernel_rfl)) (r1 cd) true (s9 x.1 x.2.1 x.2.2.1) (ank x.1 x.2.1 x.2.2.1 hc.1.mem hc.1.len hc.2)
noncomputable abbrev aec:Nat × Bool × (List AV→M AV):=(16,true,dw (aC cp (aC (b7 ag) (aC ag a0))) xc)
def I6 (s:bn):Nat:=bj s.owner+jr vd s.data
def cz (s:bn):Prop:=I6 s≤16777216
instance (s:bn):Decidable (cz s):=inferInstanceAs (Decidable (_≤_))
theorem cz.owner {s:bn} (h:cz s):dk s.owner:=by unfold cz I6 at h;unfold dk;omega
theorem cz.data {s:bn} (h:cz s):j3 s.data:=by unfold cz I6 at h;unfold j3;omega
noncomputable def kl (t:UInt16):List bc→List bc→Int
 |_,[]=>0
 |pre,d::r=>if db t d≠0 then db t d else if s9 t pre d=true then 10 else kl t (pre++[d]) r
noncomputable def jf (s:bn):Int:=
 if di s.owner≠0 then di s.owner else if s.data.length=0 then 9 else if 512<s.data.length then 3 else kl s.type [] s.data
theorem Bs (t:UInt16) {l:List bc} {i:Nat} {c:bc} (hc:l[i]? = some c):kl t (l.take i) (l.drop i)=if db t c≠0 then db t c else if s9 t (l.take i) c=true then 10 else kl t (l.take (i+1)) (l.drop (i+1)):=by
 obtain ⟨hi,rfl⟩:=List.getElem?_eq_some_iff.1 hc
 rw [List.drop_eq_getElem_cons hi,kl,List.take_succ_eq_append_getElem hi]
theorem Yo (s:bn) (hs:cz s):wl PP [xz,uf,aec] 0 (Try.f6.body.getD .skip) (er PP Try.f6.results.toList (fun r st=>(r1 (c7 .i64)).get true st.h r=some (jf s))) (cg 0 [cf.val false s]) (bh []):=by
 have ho:=hs.owner
 have hd:=hs.data
 have hn:=hd.len
 unfold Try.f6
 simp only [ja]
 simp only [↓wR,RA,simprocAttr,TF,ai,kq,ho.fit]
 unfold jf
 rw [ew];refine ⟨fun h=>?_,fun h=>?_⟩
 ·have he:di s.owner≠0:=by simpa using h
  rw [if_pos he]
  simp only [↓wR,RA,simprocAttr,TF,ai,h]
 have he:di s.owner=0:=by simpa using h
 rw [if_neg (by omega)]
 simp only [↓wR,RA,simprocAttr,TF,ai,h]
 rw [dy];refine ⟨fun ⟨h1,e1⟩=>?_,fun ⟨h1,e1⟩=>?_⟩
 ·rw [if_pos (by omega)]
  simp only [↓wR,RA,simprocAttr,TF,ai,h1]
 rw [if_neg (by omega)]
 simp only [↓wR,RA,simprocAttr,TF,ai,h1]
 rw [b8];refine ⟨fun h2=>?_,fun h2=>?_⟩
 ·rw [if_pos (by omega)]
  simp only [↓wR,RA,simprocAttr,TF,ai,h2]
 rw [if_neg (by omega)]
 simp only [↓wR,RA,simprocAttr,TF,ai,h2]
 refine dq [1,24,25,26] (fun (i:Nat)=>[.ptr 0 0,.vl false 4 (s.data.map (ag.val false)),.sc (.int .i64 (s.data.length)),.sc (.int .i64 (i))]) (fun _=>[some (.row [.vl false 1 (s.owner.map (an.val false)),.sc (.int .u16 s.type.toNat),.sc (.int .u16 s.cls.toNat),.sc (.int .u32 s.c0.toNat),.vl false 4 (s.data.map (ag.val false))] 0 2 30)]) (fun i=>i≤s.data.length∧kl s.type [] s.data=kl s.type (s.data.take i) (s.data.drop i)) (fun i=>s.data.length - i) 0 ⟨Nat.zero_le _,rfl⟩ (by simp only [↓wR,RA,simprocAttr,TF,ai]<;>rfl) (by simp only [↓wR,RA,simprocAttr,TF,ai]<;>rfl) ?_
 rintro i ⟨hi,hx⟩
 simp only [↓wR,RA,simprocAttr,TF,ai]
 rw [b8];refine ⟨fun h3=>?_,fun h3=>?_⟩
 ·obtain ⟨c,hc,hd1,hlt⟩:=ik (decide_eq_true h3)
  rw [Bs _ hc] at hx
  have hcs:=hd.mem c (List.mem_of_getElem? hc)
  simp only [↓wR,RA,simprocAttr,TF,ai,h3,hc,jb,hcs]
  rw [ew];refine ⟨fun h4=>?_,fun h4=>?_⟩
  ·have he4:db s.type c≠0:=by simpa using h4
   rw [if_pos he4] at hx
   simp only [↓wR,RA,simprocAttr,TF,ai,h4]
   rw [hx]
  ·have he4:db s.type c=0:=by simpa using h4
   rw [if_neg (by omega)] at hx
   simp only [↓wR,RA,simprocAttr,TF,ai,h4]
   refine ⟨by kernel_rfl,.inl ?_⟩
   simp only [↓wR,RA,simprocAttr,TF,ai,hi,xc,hd.take i,hcs]
   refine ⟨by kernel_rfl,?_⟩
   rw [ew];refine ⟨fun h5=>?_,fun h5=>?_⟩
   ·rw [if_pos h5] at hx
    simp only [↓wR,RA,simprocAttr,TF,ai,h5]
    rw [hx]
   ·rw [if_neg (by rw [h5];decide)] at hx
    simp only [↓wR,RA,simprocAttr,TF,ai,h5];repeat (simp (disch:=omega) only [aj,bt,br,bw,bu];try simp only [↓wR,RA,simprocAttr,TF,ai,h5])
    exact ⟨i+1,⟨hlt,hx⟩,by omega,by (first|rfl|trivial|omega|((try (simp (disch:=omega) only [aj]));(try (simp only [FB]));first|done|rfl|omega))⟩
 ·rw [oj (decide_eq_false h3)] at hx
  simp only [↓wR,RA,simprocAttr,TF,ai,h3]
  rw [hx];rfl
noncomputable def uu (x:bn × Unit):Option AV:=if cz x.1 then some ((r1 (c7 .i64)).E true (jf x.1)) else none
set_option maxRecDepth 2000000 in
theorem E3 (x:bn × Unit) (r:AV) (h:uu x=some r):ca PP 6 ((aC cf a0).E x) r:=by
 by_cases hc:cz x.1
 case neg=>simp only [uu,if_neg hc] at h;cases h
 simp only [uu,if_pos hc] at h
 cases h
 exact bk (ar.cons (ay sq) (ar.cons (ay pg) (ar.cons (ay Hr) (ar.nil PP)))) Try.func6 (by kernel_rfl) (by kernel_rfl) (by kernel_rfl) (Nat.le_of_ble_eq_true (by kernel_rfl)) (r1 (c7 .i64)) true (jf x.1) (Yo x.1 hc)
noncomputable abbrev Kv:Nat × Bool × (List AV→M AV):=(6,true,dw (aC cf a0) uu)
def wtZ (z:fp):Nat:=bj z.origin+jr I6 z.kf
def anv (z:fp):Prop:=wtZ z≤16777216
instance (z:fp):Decidable (anv z):=inferInstanceAs (Decidable (_≤_))
def ami (n top:Name):Bool:=decide (top.length<n.length) && zr n top
def atV (z:fp) (n:Name):List bn:=z.kf.filter fun s=>lz s.owner n
def alw (n:Name) (b:Option Name):Bool:=match b with|none=>true|some m=>decide (n.length<m.length)
def al3 (z:fp) (n:Name) (best:Option Name) (s:bn):Option Name:=
 if (decide ((s.type.toNat:Int)=2) && (ami s.owner z.origin && (zr n s.owner && alw s.owner best)))=true then some s.owner else best
def anu (z:fp) (n:Name):Option Name:=z.kf.foldl (al3 z n) none
def anf (z:fp) (n:Name):Bool:=zr n z.origin && (lz n z.origin || z.kf.any fun s=>zr s.owner n)
def ap0 (a b:UInt16):Int:=if (a.toNat:Int)<b.toNat then -1 else if (b.toNat:Int)<a.toNat then 1 else 0
def orV:List Int→Int
 | []=>0
 |a::r=>if a≠0 then a else orV r
noncomputable def alg (a b:bn):Int:=orV [aqb a.owner b.owner,ap0 a.type b.type]
noncomputable def aft (t:UInt16):List bc→Bool
 |a::b::r=>if 0≤wz t a b then false else aft t (b::r)
 |_=>true
noncomputable def amu (z:fp) (i:Nat) (s:bn):Bool:=
 (match i with|0=>true|k+1=>match z.kf[k]? with|some a=>decide (¬ (alg a s ≥ 0))|none=>true) && aft s.type s.data
def aag (i:Nat) (n:Name):Nat→List bn→Bool
 |_,[]=>false
 |k,o::r=>(decide (¬ (k:Int)=i) && lz o.owner n) || aag i n (k+1) r
def amy (z:fp) (i:Nat) (s:bn):Bool:=
 if ¬ (s.type.toNat:Int)=5 then true else if ¬ (s.data.length:Int)=1 then false else if lz s.owner z.origin=true then false else !aag i s.owner 0 z.kf
def aoa (s:bn):Bool:=if ¬ (s.cls.toNat:Int)=1 then false else if (s.type.toNat:Int)=0 then false else if (s.type.toNat:Int)=41 then false else !decide ((s.type.toNat:Int)=255)
def ao2 (s:bn):Bool:=if ¬ (s.type.toNat:Int)=2 then true else match s.owner[0]? with|none=>true|some a=>!decide (a=ac2)
def aqe (z:fp) (s:bn):Bool:=
 match anu z s.owner with
 |none=>true
 |some c=>if (s.type.toNat:Int)=1 then true else if (s.type.toNat:Int)=28 then true else if (s.type.toNat:Int)=2 then lz c s.owner else false
def ale (z:fp) (p:Nat × Nat) (s:bn):Nat × Nat:=
 if (s.type.toNat:Int)=6 then (p.1+1,if (lz s.owner z.origin && decide ((s.data.length:Int)=1))=true then p.2+1 else p.2) else p
def aks (z:fp):Nat × Nat:=z.kf.foldl (ale z) (0,0)
def S9 (b:Bool) (err e:Int):Int:=if e=0∧b=false then err else e
def Dn (err:Int) (p:Nat→bn→Bool):Nat→List bn→Int→Int
 |_,[],e=>e
 |i,s::r,e=>if e≠0 then e else Dn err p (i+1) r (S9 (p i s) err e)
def aly (l:List bn):Nat:=l.foldl (fun n s=>n+s.data.length) 0
noncomputable def akm:List bn→Int→Int
 | [],e=>e
 |s::r,e=>akm r (if e=0 then jf s else e)
noncomputable def Tt (z:fp):Int:=if di z.origin≠0 then di z.origin else akm z.kf (S9 (decide (aly z.kf≤2048)) 3 0)
def aoz (z:fp) (l:List bn):Bool:=l.any fun s=>decide ((s.type.toNat:Int)=2) && lz s.owner z.origin
def ape (z:fp):Bool:=aoz z z.kf
noncomputable def anb (z:fp):Int:=Dn 260 (amu z) 0 z.kf (Tt z)
noncomputable def am7 (z:fp):Int:=Dn 261 (fun _ s=>aoa s) 0 z.kf (anb z)
noncomputable def aoh (z:fp):Int:=Dn 262 (fun _ s=>zr s.owner z.origin) 0 z.kf (am7 z)
noncomputable def amt (z:fp):Int:=S9 (decide ((aks z).1=1) && decide ((aks z).2=1)) 263 (aoh z)
noncomputable def ano (z:fp):Int:=S9 (ape z) 264 (amt z)
noncomputable def anp (z:fp):Int:=Dn 265 (amy z) 0 z.kf (ano z)
noncomputable def an0 (z:fp):Int:=Dn 266 (fun _ s=>ao2 s) 0 z.kf (anp z)
noncomputable def an3 (z:fp):Int:=Dn 267 (fun _ s=>aqe z s) 0 z.kf (an0 z)
noncomputable def aa6 (z:fp):Int:=if Tt z≠0 then Tt z else an3 z
noncomputable def Tw (z:fp) (n:Name):Int:=if aa6 z≠0 then aa6 z else if di n≠0 then di n else if zr n z.origin=false then 2 else 0
def sk (z:fp):Name→Name
 | []=>[]
 |a::r=>if anf z (a::r)=true then a::r else sk z r
noncomputable def acj (z:fp) (n:Name):Te × Int:=
 if Tw z n≠0 then (U5 0 [] [],Tw z n)
 else match anu z n with
  |some c=>(U5 4 c [],0)
  |none=>
   if 0<(atV z n).length then (U5 1 n (sk z n),0)
   else if (sk z n).length=n.length then (U5 2 [] (sk z n),0)
   else if anf z (ac2::sk z n)=true then (U5 3 (ac2::sk z n) (sk z n),0)
   else (U5 0 [] (sk z n),0)
end Go.Proofs.Ytldcaajoheeipaa
end
section
namespace Go.Proofs.Ytldcaajoheeipaa
open Go.Vm
theorem age {a b:Name}:lz a b=true↔fe a=fe b:=by simp [lz]
end Go.Proofs.Ytldcaajoheeipaa
end
section
namespace Go.Proofs.Ytldcaajoheeipaa
open Go.Vm
set_option maxRecDepth 2000000
def aoi (l:List bn):Prop:=jr I6 l≤16777216
instance (l:List bn):Decidable (aoi l):=inferInstanceAs (Decidable (_≤_))
def ace (l:List bn):Prop:=l.length≤281474976710656∧∀ s ∈ l,cz s
instance (l:List bn):Decidable (ace l):=inferInstanceAs (Decidable (_∧_))
def aoo (n:Name) (t:UInt16) (s:bn):Bool:=decide ((s.type.toNat:Int)=t.toNat) && (decide ((s.cls.toNat:Int)=1) && lz s.owner n)
def akg (l:List bn) (n:Name) (t:UInt16):Option bn:=l.find? (aoo n t)
def amv:bn:=Bc [] 0 0 0 []
noncomputable def ahh (z:fp) (n:Name) (t:UInt16):Te × Int:=
 if (acj z n).2=0∧((t.toNat:Int)=0∨(t.toNat:Int)=41) then (U5 0 [] [],6) else acj z n
theorem adw {s:bn} (h:jf s=0):∀ d ∈ s.data,db s.type d=0:=by
 have key:∀ (l pre:List bc),kl s.type pre l=0→∀ d ∈ l,db s.type d=0:=by
  intro l
  induction l with
  |nil=>intro pre _ d hd;cases hd
  |cons a l ih=>
   intro pre h d hd
   rw [kl] at h
   split at h
   ·contradiction
   split at h
   ·cases h
   rcases List.mem_cons.1 hd with rfl|hd
   ·omega
   ·exact ih _ h d hd
 unfold jf at h
 split at h
 ·contradiction
 split at h
 ·cases h
 split at h
 ·cases h
 exact key _ _ h
def ap3 (n:Name) (s:bn):bn:=Bc n s.type s.cls s.c0 s.data
end Go.Proofs.Ytldcaajoheeipaa
end
namespace Go.Vm
def la {α:Type} (lt : α → α→Bool) (x : α):List α→List α
 | []=>[x]
 |y::l=>bif lt x y then x::y::l else y::la lt x l
def dm {α:Type} (lt : α → α→Bool):List α→List α:=List.foldl (fun acc x=>la lt x acc) []
def ea {α:Type} (lt : α → α→Bool):List α→List α→List α
 | [],r=>r
 |x::l,[]=>x::l
 |x::l,y::r=>bif lt y x then y::ea lt (x::l) r else x::ea lt l (y::r)
termination_by l r=>l.length+r.length
structure sr {α:Type} (lt : α → α→Bool) (V : α→Prop):Prop where
 ajv:∀ x y,V x→V y→lt x y=true→lt y x=false
 trans:∀ x y z,V x→V y→V z→lt y x=false→lt z y=false→lt z x=false
def g6 {α:Type} (lt : α → α→Bool) (l:List α):Prop:=l.Pairwise fun x y=>lt y x=false
theorem ib {α:Type} {lt : α → α→Bool} (r:List α):ea lt [] r=r:=by rw [ea]
theorem gb {α:Type} {lt : α → α→Bool} (l:List α):ea lt l []=l:=by cases l<;>rw [ea]
theorem i3 {α:Type} {lt : α → α→Bool} (x y : α) (l r:List α):ea lt (x::l) (y::r)=bif lt y x then y::ea lt (x::l) r else x::ea lt l (y::r):=by rw [ea]
theorem Wn {α:Type} {lt : α → α→Bool} {x z : α}:∀ {l:List α},z ∈ la lt x l↔z=x∨z ∈ l
 | []=>by simp [la]
 |y::l=>by
  rw [la]
  cases lt x y with
  |true=>simp
  |false=>simp only [cond_false,List.mem_cons,Wn (l:=l)];constructor<;>(rintro (h|h|h)<;>simp [h])
theorem Rm {α:Type} {lt : α → α→Bool} {x : α}:∀ {l:List α},(la lt x l).Perm (x::l)
 | []=>.refl _
 |y::l=>by
  rw [la]
  cases lt x y with
  |true=>exact .refl _
  |false=>exact (List.Perm.cons y (Rm (l:=l))).trans (List.Perm.swap x y l)
theorem Rl {α:Type} {lt : α → α→Bool}:dm lt []=[]:=rfl
theorem u4 {α:Type} {lt : α → α→Bool} (l:List α) (x : α):dm lt (l++[x])=la lt x (dm lt l):=by simp [dm,List.foldl_append]
theorem Kb {α:Type} {p:List α→Prop} (l:List α) (h0:p []) (h1:∀ l x,p l→p (l++[x])):p l:=by
 have key:∀ r:List α,p r.reverse:=fun r=>by
  induction r with
  |nil=>exact h0
  |cons a r ih=>rw [List.reverse_cons];exact h1 _ _ ih
 rw [← List.reverse_reverse l];exact key _
theorem Dz {α:Type} {lt : α → α→Bool} (l:List α):(dm lt l).Perm l:=by
 refine Kb (p:=fun l=>(dm lt l).Perm l) l (.refl _) fun l x ih=>?_
 rw [u4]
 exact Rm.trans ((List.Perm.cons x ih).trans (List.perm_append_singleton x l).symm)
theorem kz {α:Type} {lt : α → α→Bool} {l:List α} {z : α}:z ∈ dm lt l↔z ∈ l:=(Dz l).mem_iff
theorem fu {α:Type} {lt : α → α→Bool} (l:List α):(dm lt l).length=l.length:=(Dz l).length_eq
theorem B0 {α:Type} {lt : α → α→Bool}:∀ (l r:List α),(ea lt l r).Perm (l++r)
 | [],r=>by rw [ib];exact .refl _
 |x::l,[]=>by rw [gb,List.append_nil]
 |x::l,y::r=>by
  rw [i3]
  cases lt y x with
  |true=>exact (List.Perm.cons y (B0 (x::l) r)).trans (List.perm_middle (l₁:=x::l)).symm
  |false=>exact List.Perm.cons x (B0 l (y::r))
termination_by l r=>l.length+r.length
theorem ad1 {α:Type} {lt : α → α→Bool} (l r:List α):(ea lt l r).length=l.length+r.length:=by rw [(B0 l r).length_eq,List.length_append]
theorem sr.le_of_lt {α:Type} {lt : α → α→Bool} {V : α→Prop} (O:sr lt V) {x y z : α} (hx:V x) (hy:V y) (hz:V z) (h:lt x y=true) (k:lt z y=false):lt z x=false:=O.trans x y z hx hy hz (O.ajv x y hx hy h) k
theorem Ob {α:Type} {lt : α → α→Bool} {V : α→Prop} (O:sr lt V) {x : α} (hx:V x):∀ {l:List α},(∀ y ∈ l,V y)→g6 lt l→g6 lt (la lt x l)
 | [],_,_=>by simp [la,g6]
 |y::l,hV,h=>by
  have h1:=List.pairwise_cons.1 h
  have hy:=hV y List.mem_cons_self
  have hl:∀ z ∈ l,V z:=fun z hz=>hV z (List.mem_cons_of_mem _ hz)
  rw [la]
  cases e:lt x y with
  |true=>
   rw [cond_true]
   refine List.pairwise_cons.2 ⟨fun z hz=>?_,h⟩
   rcases List.mem_cons.1 hz with rfl|hz
   ·exact O.ajv _ _ hx hy e
   ·exact O.le_of_lt hx hy (hl z hz) e (h1.1 z hz)
  |false=>
   rw [cond_false]
   refine List.pairwise_cons.2 ⟨fun z hz=>?_,Ob O hx hl h1.2⟩
   rcases Wn.1 hz with rfl|hz
   ·exact e
   ·exact h1.1 z hz
theorem te {α:Type} {lt : α → α→Bool} {V : α→Prop} (O:sr lt V) (l:List α) (hV:∀ y ∈ l,V y):g6 lt (dm lt l):=by
 revert hV
 refine Kb (p:=fun l=>(∀ y ∈ l,V y)→g6 lt (dm lt l)) l (fun _=>List.Pairwise.nil) fun l x ih hV=>?_
 rw [u4]
 exact Ob O (hV x (by simp)) (fun y hy=>hV y (by simp [kz.1 hy])) (ih fun y hy=>hV y (by simp [hy]))
theorem Ba {α:Type} {lt : α → α→Bool} {V : α→Prop} (O:sr lt V) {x : α} (hx:V x):∀ (a b:List α),(∀ y ∈ a,V y)→(∀ y ∈ b,V y)→ea lt a (la lt x b)=la lt x (ea lt a b)
 | [],b,_,_=>by rw [ib,ib]
 |a::s,[],ha,hb=>by
  have ih:=Ba O hx s [] (fun y hy=>ha y (List.mem_cons_of_mem _ hy)) hb
  rw [gb] at ih ⊢
  rw [la,i3,la]
  cases lt x a with
  |true=>rw [cond_true,cond_true,gb]
  |false=>rw [cond_false,cond_false];rw [la] at ih;rw [ih]
 |a::s,b::r,ha,hb=>by
  have va:=ha a List.mem_cons_self
  have vb:=hb b List.mem_cons_self
  have ih1:=Ba O hx s (b::r) (fun y hy=>ha y (List.mem_cons_of_mem _ hy)) hb
  have ih2:=Ba O hx (a::s) r ha (fun y hy=>hb y (List.mem_cons_of_mem _ hy))
  rw [i3]
  rw [la] at ih1 ⊢
  cases e1:lt x b with
  |true=>
   rw [e1,cond_true] at ih1
   rw [cond_true,i3]
   cases e2:lt b a with
   |true=>
    have e3:lt x a=true:=by
     cases e3:lt x a with
     |true=>rfl
     |false=>
      have:=O.trans a x b va hx vb e3 (O.ajv _ _ hx vb e1)
      rw [e2] at this;cases this
    rw [e3,cond_true,cond_true,la,e1,cond_true,i3,e2,cond_true]
   |false=>
    rw [cond_false,la]
    cases e3:lt x a with
    |true=>rw [cond_true,cond_true,i3,e2,cond_false]
    |false=>rw [cond_false,cond_false,ih1]
  |false=>
   rw [e1,cond_false] at ih1
   rw [cond_false,i3]
   cases e2:lt b a with
   |true=>rw [cond_true,cond_true,la,e1,cond_false,ih2]
   |false=>
    have e3:=O.trans a b x va vb hx e2 e1
    rw [cond_false,cond_false,la,e3,cond_false,ih1]
termination_by a b=>a.length+b.length
theorem Me {α:Type} {lt : α → α→Bool} {V : α→Prop} (O:sr lt V) (a b:List α) (ha:∀ y ∈ a,V y) (hb:∀ y ∈ b,V y):ea lt (dm lt a) (dm lt b)=dm lt (a++b):=by
 revert hb
 refine Kb (p:=fun b=>(∀ y ∈ b,V y)→ea lt (dm lt a) (dm lt b)=dm lt (a++b)) b (fun _=>by rw [Rl,gb,List.append_nil]) fun b x ih hb=>?_
 rw [u4,← List.append_assoc,u4,Ba O (hb x (by simp)) _ _ (fun y hy=>ha y (kz.1 hy)) (fun y hy=>hb y (by simp [kz.1 hy])),ih fun y hy=>hb y (by simp [hy])]
theorem X4 {α:Type} {lt : α → α→Bool} {x : α}:∀ (A B:List α),(∀ y ∈ A,lt x y=false)→(∀ y ∈ B.head?,lt x y=true)→la lt x (A++B)=A++x::B
 | [],[],_,_=>rfl
 | [],b::B,_,h=>by rw [List.nil_append,la,h b rfl];rfl
 |a::A,B,h,h2=>by rw [List.cons_append,la,h a List.mem_cons_self,cond_false,X4 A B (fun y hy=>h y (List.mem_cons_of_mem _ hy)) h2];rfl
theorem nb {α:Type} {lt : α → α→Bool}:∀ (A B C D:List α),(∀ x ∈ A,∀ y ∈ D,lt y x=false)→(∀ x ∈ B,∀ y ∈ C,lt y x=true)→ea lt (A++B) (C++D)=ea lt A C++ea lt B D
 | [],B,[],D,_,_=>by rw [ib];rfl
 | [],[],c::C,D,_,_=>by rw [List.append_nil,ib,ib,ib]
 | [],b::B,c::C,D,h1,h2=>by
  have ih:=nb [] (b::B) C D (by simp) (fun x hx y hy=>h2 x hx y (List.mem_cons_of_mem _ hy))
  rw [List.nil_append,List.cons_append,i3,h2 b List.mem_cons_self c List.mem_cons_self,cond_true,ib]
  rw [List.nil_append,ib] at ih
  rw [ih];rfl
 |a::A,B,[],[],_,_=>by rw [List.append_nil,gb,gb,gb]
 |a::A,B,[],d::D,h1,h2=>by
  have ih:=nb A B [] (d::D) (fun x hx=>h1 x (List.mem_cons_of_mem _ hx)) (by simp)
  rw [List.nil_append,gb] at ih ⊢
  rw [List.cons_append,i3,h1 a List.mem_cons_self d List.mem_cons_self,cond_false,ih];rfl
 |a::A,B,c::C,D,h1,h2=>by
  have ih1:=nb A B (c::C) D (fun x hx=>h1 x (List.mem_cons_of_mem _ hx)) h2
  have ih2:=nb (a::A) B C D h1 (fun x hx y hy=>h2 x hx y (List.mem_cons_of_mem _ hy))
  rw [List.cons_append,List.cons_append,i3,i3]
  cases lt c a with
  |true=>rw [cond_true,cond_true];rw [List.cons_append] at ih2;rw [ih2];rfl
  |false=>rw [cond_false,cond_false];rw [List.cons_append] at ih1;rw [ih1];rfl
termination_by A _ C _=>A.length+C.length
theorem P8 {α:Type} {lt : α → α→Bool} {V : α→Prop} (O:sr lt V) {A:List α} {x y : α} {D:List α} (hA:∀ z ∈ A++[x],V z) (hD:∀ z ∈ y::D,V z) (h1:g6 lt (A++[x])) (h2:g6 lt (y::D)) (h:lt y x=false):∀ a ∈ A++[x],∀ d ∈ y::D,lt d a=false:=by
 have k1:=List.pairwise_append.1 h1
 have k2:=List.pairwise_cons.1 h2
 intro a ha d hd
 have vx:=hA x (by simp)
 have vy:=hD y (by simp)
 have e1:lt y a=false:=by
  rcases List.mem_append.1 ha with q|q
  ·exact O.trans a x y (hA a ha) vx vy (k1.2.2 a q x (by simp)) h
  ·simp at q;subst q;exact h
 rcases List.mem_cons.1 hd with rfl|q
 ·exact e1
 ·exact O.trans a y d (hA a ha) vy (hD d hd) e1 (k2.1 d q)
theorem Kj {α:Type} {lt : α → α→Bool} {V : α→Prop} (O:sr lt V) {B:List α} {x y : α} {C:List α} (hB:∀ z ∈ x::B,V z) (hC:∀ z ∈ C++[y],V z) (h1:g6 lt (x::B)) (h2:g6 lt (C++[y])) (h:lt y x=true):∀ b ∈ x::B,∀ c ∈ C++[y],lt c b=true:=by
 have k1:=List.pairwise_cons.1 h1
 have k2:=List.pairwise_append.1 h2
 intro b hb c hc
 have vx:=hB x (by simp)
 have vy:=hC y (by simp)
 cases e:lt c b with
 |true=>rfl
 |false=>
  have e1:lt y b=false:=by
   rcases List.mem_append.1 hc with q|q
   ·exact O.trans b c y (hB b hb) (hC c hc) vy e (k2.2.2 c q y (by simp))
   ·simp at q;subst q;exact e
  have e2:lt y x=false:=by
   rcases List.mem_cons.1 hb with rfl|q
   ·exact e1
   ·exact O.trans x b y vx (hB b hb) vy (k1.1 b q) e1
  rw [h] at e2;cases e2
end Go.Vm
section
namespace Go.Proofs.Ytldcaajoheeipaa
open Go.Vm
set_option maxRecDepth 2000000
theorem yc {α:Type} (X Y:List α) (p q : α):(X++p::Y).set X.length q=X++q::Y:=by
 rw [List.set_append];simp
theorem get_at {α:Type} (X Y:List α) (p : α):(X++p::Y)[X.length]? = some p:=by
 rw [List.getElem?_append_right (Nat.le_refl _),Nat.sub_self];rfl
theorem aid {α:Type} (C:bq α) {xs:List α} {i:Nat} {c : α} (hc:xs[i]? = some c):((cellsOf C true xs).drop (i * C.sz)).take C.sz=C.cells true c∧C.sz≤((cellsOf C true xs).drop (i * C.sz)).length:=by
 obtain ⟨hi,rfl⟩:=List.getElem?_eq_some_iff.1 hc
 rw [Fi,List.drop_eq_getElem_cons hi,Ho]
 refine ⟨by rw [← C.len true xs[i],List.take_left],by rw [List.length_append,C.len];omega⟩
theorem ahb {α:Type} (C:bq α) {xs:List α} {i:Nat} {c : α} (y : α) (k:Nat) (et:TypeId) (id:Nat) (hc:xs[i]? = some c) :
 sb id (i * C.sz) C.sz (C.cells true y) (.row (cellsOf C true xs) 0 k et)=(fk id (.row (cellsOf C true (xs.set i y)) 0 k et)).bind fun _=>.pure (.sc undef):=by
 obtain ⟨hi,rfl⟩:=List.getElem?_eq_some_iff.1 hc
 have hl:(cellsOf C true xs).length=xs.length * C.sz:=qs C true xs
 have h1:(cellsOf C true xs).take (i * C.sz)=cellsOf C true (xs.take i):=Vp C true xs i
 have h3:(cellsOf C true xs).drop (i * C.sz+C.sz)=cellsOf C true (xs.drop (i+1)):=by
  rw [show i * C.sz+C.sz=(i+1) * C.sz by rw [Nat.succ_mul],Fi]
 have hlt:i * C.sz+C.sz≤xs.length * C.sz:=by rw [← Nat.succ_mul];exact Nat.mul_le_mul_right _ hi
 have h4:(cellsOf C true xs).take (i * C.sz)++C.cells true y++(cellsOf C true xs).drop (i * C.sz+C.sz)=cellsOf C true (xs.set i y):=by
  rw [h1,h3,List.set_eq_take_append_cons_drop,if_pos hi,B8,Ho,List.append_assoc]
 have hone:(C.cells true y).all AV.one=true:=agc C true y
 have hb:Nat.beq (C.cells true y).length C.sz=true:=by rw [C.len];exact Nat.beq_refl _
 unfold sb
 simp only [hl,Nat.ble_eq_true_of_le hlt,h4,hone,hb]
 rfl
theorem gw {xs:List bc} {i:Nat} {c:bc} (k st et) (hc:xs[i]? = some c):su PP 50 (i * 4) (.row (cellsOf ag true xs) k st et) = .pure (ag.val true c):=by
 have h:=aid ag hc
 have h1:mb PP 50=some true:=by kernel_rfl
 have h2:cb PP 50=some 4:=by kernel_rfl
 have h3:((cellsOf ag true xs).drop (i * 4)).take 4=ag.cells true c:=h.1
 have h4:Nat.ble 4 ((cellsOf ag true xs).drop (i * 4)).length=true:=Nat.ble_eq_true_of_le h.2
 unfold su nj
 simp only [h1,h2,h3,h4,cond_true]
 rfl
theorem og {xs:List bc} {i:Nat} {c:bc} (y:bc) (k:Nat) (et:TypeId) (id:Nat) (hc:xs[i]? = some c) :
 sb id (i * 4) 4 [.vl true 1 (y.names.map (aw.val true)),.vl true 1 (y.nums.map (bz.val false)),.vl true 1 (y.texts.map (an.val false)),.vl true 1 (y.raw.map (ba.val false))] (.row (cellsOf ag true xs) 0 k et)=(fk id (.row (cellsOf ag true (xs.set i y)) 0 k et)).bind fun _=>.pure (.sc undef):=
 ahb ag y k et id hc
theorem gk {P:Program} {f:Nat} {args:List AV} {st:St} {R0 R:AV→St→Prop} (h1:fo P f args st R0) (h2:∀ r st',R0 r st'→R r st'):fo P f args st R:=by
 intro g w vs hok hfr hrel
 rcases h1 g w vs hok hfr hrel with ⟨v,w',g',r,st',q1,q2,q3⟩|⟨q1,q2⟩
 ·exact .inl ⟨v,w',g',r,st',q1,h2 _ _ q2,q3⟩
 ·refine .inr ⟨q1,q2.mono ?_⟩
  rintro e w' ⟨v,g',r,st',rfl,q2,q3⟩
  exact ⟨v,g',r,st',rfl,h2 _ _ q2,q3⟩
end Go.Proofs.Ytldcaajoheeipaa
end
namespace Go.Vm
noncomputable section
inductive wq:aq→aq→Prop
 |rfl (x:aq):wq x x
 |perm (es es':List (Value × AV)) (h:es.Perm es') (hl:loose es=true):wq (.map es) (.map es')
theorem wq.ghost {x y} (hs:wq x y) (h:w8 y):w8 x:=by
 cases hs with
 |rfl=>exact h
 |perm es es' hp hl=>obtain ⟨s,e,he⟩:=h;cases he
theorem wq.obj {g w b base x y} (hs:wq x y) (h:ko g w b base y):ko g w b base x:=by
 cases hs with
 |rfl=>exact h
 |perm es es' hp hl=>
  obtain ⟨h0,ms,clock,h1,h2,h3,h4,l,h5,h6,h7⟩:=h
  refine ⟨h0,ms,clock,h1,by rw [h2,hp.length_eq],h3,h4,?_⟩
  have hlen:l.length=es'.length:=by rw [h5.length_eq,← h2];simp
  have key:∀ (k k':List (Value × AV)),k.Perm k'→∀ l':List MapEntry,l'.length=k'.length→(∀ (i:Nat) e m,k'[i]? = some e→l'[i]? = some m→m.key=e.1∧Rel g w e.2 m.val) →
   ∃ l:List MapEntry,l.Perm l'∧l.length=k.length∧(∀ (i:Nat) e m,k[i]? = some e→l[i]? = some m→m.key=e.1∧Rel g w e.2 m.val):=by
   intro k k' hp
   induction hp with
   |nil=>intro l' hl' hr;exact ⟨l',.refl _,hl',hr⟩
   |cons a _ ih=>
    intro l' hl' hr
    cases l' with
    |nil=>simp at hl'
    |cons m l'=>
     obtain ⟨l,q1,q2,q3⟩:=ih l' (by simpa using hl') (fun i e m' he hm=>hr (i+1) e m' (by simpa using he) (by simpa using hm))
     refine ⟨m::l,q1.cons m,by simp [q2],fun i e m' he hm=>?_⟩
     cases i with
     |zero=>exact hr 0 e m' (by simpa using he) (by simpa using hm)
     |succ i=>exact q3 i e m' (by simpa using he) (by simpa using hm)
   |swap a b k=>
    intro l' hl' hr
    match l',hl' with
    |m::n::l',hl'=>
     refine ⟨n::m::l',List.Perm.swap _ _ _,by simpa using hl',fun i e m' he hm=>?_⟩
     match i with
     |0=>exact hr 1 e m' (by simpa using he) (by simpa using hm)
     |1=>exact hr 0 e m' (by simpa using he) (by simpa using hm)
     |i+2=>exact hr (i+2) e m' (by simpa using he) (by simpa using hm)
   |trans _ _ ih1 ih2=>
    intro l' hl' hr
    obtain ⟨l2,q1,q2,q3⟩:=ih2 l' hl' hr
    obtain ⟨l1,p1,p2,p3⟩:=ih1 l2 q2 q3
    exact ⟨l1,p1.trans q1,p2,p3⟩
  obtain ⟨l2,q1,_,q3⟩:=key es es' hp l hlen h6
  exact ⟨l2,q1.trans h5,q3,.inr hl⟩
theorem Ok.Uv {g h h' w} (hok:Ok g h' w) (hs:∀ o x,h.get o=some x→∃ y,h'.get o=some y∧wq x y):Ok g h w:=by
 refine ⟨hok.size,fun o x hx=>?_,fun o o' x x' b base base' hne hx hx'=>?_,hok.K⟩
 ·obtain ⟨y,h1,h2⟩:=hs o x hx
  refine (hok.kn o y h1).imp (fun q=>⟨q.1,h2.ghost q.2⟩) ?_
  rintro ⟨b,base,q1,q2,q3⟩
  exact ⟨b,base,q1,q2,h2.obj q3⟩
 ·obtain ⟨y,h1,_⟩:=hs o x hx
  obtain ⟨y',h1',_⟩:=hs o' x' hx'
  exact hok.sep o o' y y' b base base' hne h1 h1'
theorem Sn {h h':Tr aq} (hs:∀ o x,h.get o=some x→∃ y,h'.get o=some y∧wq x y) {o:Nat} (ho:(h.get o).isSome=true):(h'.get o).isSome=true:=by
 obtain ⟨x,hx⟩:=Option.isSome_iff_exists.1 ho
 obtain ⟨y,h1,_⟩:=hs o x hx
 rw [h1];rfl
structure Lit where
 i:Nat
 d:TypeDesc
 e:Value × AV
def m5 (lits:List Lit) (D:Nat→Bool):List (Value × AV):=(lits.filter fun q=>D q.i).map (·.e)
structure Vr (lits:List Lit):Prop where
 idx:(lits.map (·.i)).Nodup
 apart:∀ q ∈ lits,∀ r ∈ lits,q.i≠r.i→lj q.e.1 r.e.1=true∧Instr.sameNow q.d q.e.1 r.e.1=some false
theorem Xy {lits:List Lit} {D:Nat→Bool} {e:Value × AV} (h:e ∈ m5 lits D):∃ q ∈ lits,D q.i=true∧q.e=e:=by
 simp only [m5,List.mem_map,List.mem_filter] at h
 obtain ⟨q,⟨h1,h2⟩,h3⟩:=h
 exact ⟨q,h1,h2,h3⟩
theorem Ip {D:Nat→Bool}:∀ {lits:List Lit},Vr lits→nn (m5 lits D)=true
 | [],_=>rfl
 |q::l,h=>by
  have hl:Vr l:=⟨by have:=h.idx;rw [List.map_cons,List.nodup_cons] at this;exact this.2,fun a ha b hb=>h.apart a (by simp [ha]) b (by simp [hb])⟩
  have ih:=Ip (D:=D) hl
  unfold m5 at ih ⊢
  rw [List.filter_cons]
  split
  ·simp only [List.map_cons,nn,Bool.and_eq_true,List.all_eq_true]
   refine ⟨fun x hx=>?_,ih⟩
   obtain ⟨r,h1,_,rfl⟩:=Xy (D:=D) hx
   refine (h.apart q (by simp) r (by simp [h1]) (fun e=>?_)).1
   have:=h.idx
   rw [List.map_cons,List.nodup_cons] at this
   exact this.1 (by rw [e];exact List.mem_map_of_mem h1)
  ·exact ih
theorem ai7 {lits:List Lit} (h:(lits.map (·.i)).Nodup) {D:Nat→Bool} {q:Lit} (hq:q ∈ lits) (hD:D q.i=false):(m5 lits (ir D q.i)).Perm (m5 lits D++[q.e]):=by
 induction lits with
 |nil=>cases hq
 |cons a l ih=>
  rw [List.map_cons,List.nodup_cons] at h
  unfold m5 at ih ⊢
  rcases List.mem_cons.1 hq with rfl|hq
  ·rw [List.filter_cons_of_pos (by simp [ir]),List.filter_cons_of_neg (by simp [hD])]
   have:l.filter (fun r=>ir D q.i r.i)=l.filter (fun r=>D r.i):=by
    refine List.filter_congr fun r hr=>?_
    have:r.i≠q.i:=fun e=>h.1 (by rw [← e];exact List.mem_map_of_mem hr)
    simp [ir,this]
   rw [this,List.map_cons]
   exact (List.perm_append_singleton _ _).symm
  ·have hne:a.i≠q.i:=fun e=>h.1 (by rw [e];exact List.mem_map_of_mem hq)
   have hu:ir D q.i a.i=D a.i:=by simp [ir,hne]
   cases hb:D a.i with
   |true=>
    rw [List.filter_cons_of_pos (by rw [hu,hb]),List.filter_cons_of_pos (by rw [hb])]
    exact (ih h.2 hq).cons _
   |false=>
    rw [List.filter_cons_of_neg (by rw [hu,hb];simp),List.filter_cons_of_neg (by rw [hb];simp)]
    exact ih h.2 hq
theorem abw {lits:List Lit} {D:Nat→Bool} {i:Nat} (h:∀ q ∈ lits,q.i≠i):m5 lits (ir D i)=m5 lits D:=by
 unfold m5
 congr 1
 exact List.filter_congr fun q hq=>by simp [ir,h q hq]
theorem af0 {lits:List Lit} {D:Nat→Bool} (h:∀ q ∈ lits,D q.i=false):m5 lits D=[]:=by
 unfold m5
 rw [List.filter_eq_nil_iff.2 (fun q hq=>by simp [h q hq])]
 rfl
theorem ajy {lits:List Lit} {D:Nat→Bool} (h:∀ q ∈ lits,D q.i=true):m5 lits D=lits.map (·.e):=by
 unfold m5
 rw [List.filter_eq_self.2 (fun q hq=>h q hq)]
theorem Hi (d:TypeDesc) (k:Value):∀ (l:List MapEntry) (i:Nat),(∀ m ∈ l,Instr.sameNow d k m.key=some false)→Instr.findNow d k l i=some none
 | [],_,_=>rfl
 |m::l,i,h=>by
  rw [Instr.findNow,h m (by simp)]
  exact Hi d k l (i+1) (fun m hm=>h m (by simp [hm]))
theorem acs {P:Program} {kt:TypeId} {d:TypeDesc} {k:Value} {es:List (Value × AV)} (hu:P.underlying kt=some d) (h:∀ e ∈ es,Instr.sameNow d k e.1=some false):mj P kt k es=some none:=by
 have hf:Instr.findNow d k (ny es) 0=some none:=Hi d k _ 0 (fun m hm=>by
  simp only [ny,List.mem_map] at hm
  obtain ⟨e,he,rfl⟩:=hm
  exact h e he)
 have hn:N3 P kt k es=true:=by unfold N3;rw [hu];simp only;rw [hf];rfl
 unfold mj
 rw [hn,Bool.or_true,cond_true]
 have hevu:ev P (underlying kt)=some d:=by
  simp [underlying,program,ev,hu,g5,ug,Sem.bind,bind]
 have:ev P (Instr.findKey kt k (ny es))=some none:=by
  unfold Instr.findKey
  rw [g5,hevu]
  simp only [Option.bind_some]
  rw [hf];rfl
 rw [this];rfl
theorem Step.Uv {g h w lo hi g' h' h'' w'} (s:Step g h w lo hi g' h' w') (hs:∀ o x,h''.get o=some x→∃ y,h'.get o=some y∧wq x y):Step g h w lo hi g' h'' w':=
 ⟨s.ext,s.size,s.os,s.tape,s.output,s.frame,s.fresh,fun o b base ho hi=>s.own o b base (Sn hs ho) hi,s.l5⟩
def p0 (o:Oper):Bool:=match o.op with|.insert .. => true|_=>false
def q9 (ops:Array Oper) (L:SL) (o:Oper):Option Bool:=bif p0 o then some false else tx ops L o
def aca (P:Program) (T:cw) (ops:Array Oper) (E:List Rec→Prop):List Oper→(SL→St→Prop)→List Rec→SL→St→Prop
 | [],K=>fun recs L st=>E recs∧K L st
 |o::r,K=>fun recs L st=>(q9 ops L o=some true∧Mx P T o recs (aca P T ops E r K) L st)∨(q9 ops L o=some false∧aca P T ops E r K (recs++[⟨[],[]⟩]) (fc o.dst (.sc undef) L) st)
theorem ai4 {P:Program} {T:cw} {ops:Array Oper} {E:List Rec→Prop} {K:SL→St→Prop}:∀ (l:List Oper) (L:SL) (st:St) (recs:List Rec),aca P T ops E l K recs L st →
 ∃ ds L' st',ds.map (·.o)=l∧(∀ d ∈ ds,DSRun P T d∧q9 ops d.L d.o=some d.want)∧Ic ds L st L' st'∧E (recs++ds.map fun d=>⟨d.R,d.W⟩)∧K L' st':=by
 intro l
 induction l with
 |nil=>intro L st recs h;exact ⟨[],L,st,rfl,by simp,⟨rfl,rfl⟩,by simpa using h.1,h.2⟩
 |cons o l ih=>
  intro L st recs h
  rcases h with ⟨hb,F,W,v,au,hop,h4,h5,h6,h7,h8⟩|⟨hb,h3⟩
  ·obtain ⟨ds,L',st',e1,e2,e3,e4,e5⟩:=ih _ _ _ h8
   have hle:=tv hop
   refine ⟨{ o,L,st,want:=true,v,au,R:=F,W:=W++cq st.nx (au.nx - st.nx) }::ds,L',st',by simp [e1],?_,⟨rfl,rfl,?_⟩,?_,e5⟩
   ·intro d hd
    rcases List.mem_cons.1 hd with rfl|hd
    ·refine ⟨⟨fun _=>⟨hop,h6,h7,fun q=>?_,fun q hq hn=>?_⟩,fun e=>by cases e⟩,hb⟩
     ·simp only [List.mem_append,fl]
      constructor
      ·rintro (hq|hq)
       ·exact .inl ⟨.inl hq,h4 q hq⟩
       ·exact .inr ⟨hq.1,by simp at hle;omega⟩
      ·rintro (hq|hq)
       ·exact hq.1
       ·exact .inr ⟨hq.1,by omega⟩
     ·have:=h5 q hq (fun hw=>hn (List.mem_append.2 (.inl hw)))
      rw [ng _ _ _ (fun p hp=>by have:=h6 p hp;simp at hle;omega),if_pos hq] at this
      exact this
    ·exact e2 d hd
   ·exact e3
   ·simpa [List.append_assoc] using e4
  ·obtain ⟨ds,L',st',e1,e2,e3,e4,e5⟩:=ih _ _ _ h3
   refine ⟨{ o,L,st,want:=false,v:=.sc undef,au:=st,R:=[],W:=[] }::ds,L',st',by simp [e1],?_,⟨rfl,rfl,?_⟩,?_,e5⟩
   ·intro d hd
    rcases List.mem_cons.1 hd with rfl|hd
    ·exact ⟨⟨(fun e=>by cases e),fun _=>⟨rfl,rfl,rfl,rfl⟩⟩,hb⟩
    ·exact e2 d hd
   ·exact e3
   ·simpa [List.append_assoc] using e4
theorem ah8 {P:Program} {T:cw} {ops:Array Oper} {ds:List DS} {L:SL} {st:St} {L':SL} {st':St} (hs:j9 ops=true) (e1:ds.map (·.o)=ops.toList) (e2:∀ d ∈ ds,DSRun P T d) (e3:Ic ds L st L' st'):p9 P T ops ds L st L' st':=by
 obtain ⟨c1,c2,c3,c4⟩:=Tl e2 e3
 unfold j9 at hs
 rw [Bool.and_eq_true] at hs
 refine ⟨e1,e2,c1,⟨c2,c3,c4⟩,fun i k x y t hik hx hy ht hdt=>?_,fun i o ho e he hb=>?_⟩
 ·have hxi:(x.o,i) ∈ ops.toList.zipIdx:=by
   rw [List.mem_zipIdx_iff_getElem?,← e1];simp [hx]
  have hyk:(y.o,k) ∈ ops.toList.zipIdx:=by
   rw [List.mem_zipIdx_iff_getElem?,← e1];simp [hy]
  have h1:=List.all_eq_true.1 hs.1 _ hxi
  have h2:=List.all_eq_true.1 h1 t ht
  have h3:=List.all_eq_true.1 h2 _ hyk
  simp only [hdt,Bool.or_eq_true] at h3
  rcases h3 with (h3|h3)|h3
  ·simp at h3
  ·simp at h3;omega
  ·rw [Nat.max_comm,Nat.min_comm];exact h3
 ·have hoi:(o,i) ∈ ops.toList.zipIdx:=by rw [List.mem_zipIdx_iff_getElem?];simpa using ho
  have h1:=List.all_eq_true.1 hs.2 _ hoi
  rw [Array.all_eq_true_iff_forall_mem] at h1
  have:=h1 e he
  rw [hb] at this
  simpa using this
theorem amg {ops:Array Oper} {ds:List DS} (e4:cy (Region.before ops) 0 (ds.map fun d=>⟨d.R,d.W⟩)=true):Calm ops ds:=fun i k x y hik hx hy=>by
 have:=Bw _ 0 e4 i k ⟨x.R,x.W⟩ ⟨y.R,y.W⟩ hik (by simp [hx]) (by simp [hy])
 simp only [rn,Nat.zero_add,Bool.or_eq_true,Bool.and_eq_true] at this
 rcases this with h1|h1
 ·exact .inr ⟨h1.1.1,h1.1.2,h1.2⟩
 ·exact .inl h1
end
end Go.Vm
namespace Go.Vm
noncomputable section
theorem At.ins {H:(Nat→Bool)→Nat→Option aq} {P:Program} {T:cw} (hT:ll P T) {ops:Array Oper} {ds:List DS} {L0:SL} {g0:Gh} {st0:St} {w0:World} {df:List Deferred} {ro:Option Nat} {N:Nat} {nt:Nat} {L':SL} {st':St} (R:p9 P T ops ds L0 st0 L' st')
 {D:Nat→Bool} {a:Act} {w:World} {i:Nat} {d:DS} (hi:ds[i]? = some d) (hD:D i=false) (hr:∀ e ∈ d.o.after,Region.binds .any e=true→D e.on=true) (A:At H ops ds L0 g0 st0 w0 df nt (ga ds st0.nx ds.length) D a w)
 {t:TypeId} {m k x:Operand} (hop:d.o.op = .insert t m k x) (hdst:d.o.dst=none) (hgd:d.o.guard=none) {p:Nat} {kt et:TypeId} {key:Value} (hu:P.underlying t=some (.map kt et)) (hm:bd d.o d.L m = .mp p) (hkey:(bd d.o d.L k).du=some key)
 (hck:ev P (Instr.checkKey false 10000 kt key)=some ()) {es:List (Value × AV)} (hes:H D p=some (.map es)) (hlim:p≤bo) (hplt:p<ga ds st0.nx ds.length) (hfind:mj P kt key es=some none) (hst:stays es (es++[(key,bd d.o d.L x)])=true)
 {es':List (Value × AV)} (hes':H (ir D i) p=some (.map es')) (hsame:wq (.map es') (.map (es++[(key,bd d.o d.L x)]))) (hoth:∀ o,o≠p→H (ir D i) o=H D o)
 {Q:Exit→Act→World→Prop} {K:Act→World→Prop} (hK:∀ a' w',At H ops ds L0 g0 st0 w0 df nt (ga ds st0.nx ds.length) (ir D i) a' w'→K a' w'):wpOpIn (ed ro) N P ops Q i K a w:=by
 have ho:=R.get hi
 have hbef:=sf A.closed ho hr
 have hcl:=A.closed.ir ho hr
 obtain ⟨a1,a2,a3,a4⟩:=R.rj i d hi
 obtain ⟨g,h,h1,h2,h3,h4,h5⟩:=A.mem
 have slot:∀ t ∈ qk ops d.o,ig ds L0 D ds.length t=lk d.L t:=by
  intro t ht
  have hlt:i<ds.length:=(List.getElem?_eq_some_iff.1 hi).1
  have:=Gb (L0:=L0) (D:=D) (i:=i) (t:=t) (ds:=ds) (fun k e hk he=>?_) ds.length
  ·rw [this,a1 t];congr 1;omega
  ·rcases Nat.lt_trichotomy k i with hlt'|rfl|hgt
   ·have:=R.slots i k d e t (by omega) hi hk ht he
    rw [show max i k=i from by omega,show min i k=k from by omega] at this
    exact ⟨fun _=>hlt',fun _=>hbef k this⟩
   ·exact ⟨(fun q=>by rw [hD] at q;cases q),(fun q=>by omega)⟩
   ·have:=R.slots i k d e t (by omega) hi hk ht he
    rw [show max i k=k from by omega,show min i k=i from by omega] at this
    exact ⟨(fun q=>by have:=A.closed k i q this;rw [hD] at this;cases this),(fun q=>by omega)⟩
 have mono1:∀ i d,ds[i]? = some d→d.st.nx=ga ds st0.nx i∧d.st.nx≤d.au.nx:=fun i d hd=>⟨(R.rj i d hd).2.2.1,(R.rj i d hd).2.2.2⟩
 have hp:∀ q ∈ [p],q≤bo:=fun q hq=>by rw [List.mem_singleton] at hq;subst hq;exact hlim
 have hmask:∀ o,(ij h [p]).get o=if o=p then h.get o else none:=fun o=>by rw [ng _ _ _ hp];simp
 have hsub:∀ o x,(ij h [p]).get o=some x→h.get o=some x:=fun o x hx=>by
  rw [hmask] at hx
  by_cases e:o=p
  ·rw [if_pos e] at hx;exact hx
  ·rw [if_neg e] at hx;cases hx
 have hrel:ku g w (bd d.o d.L) a.eval:=Mo fun t ⟨x,hx,e⟩=>by
  have hu:t ∈ qk ops d.o:=by
   simp only [qk,List.mem_append,List.mem_filterMap]
   exact .inl (.inr ⟨x,hx,by rw [e]⟩)
  rw [← slot t hu]
  exact h4 t
 have hgp:(ij h [p]).get p=some (.map es):=by rw [hmask,if_pos rfl,h1,hes]
 obtain ⟨au,hst1⟩:∃ au:St,au = { h:=(ij h [p]).set depth p (some (.map (es++[(key,bd d.o d.L x)]))),nx:=ga ds st0.nx ds.length,rl:=[p],wl:=[p] }:=⟨_,rfl⟩
 have hrun:dh P T d.o (bd d.o d.L) { h:=ij h [p],nx:=ga ds st0.nx ds.length,rl:=[],wl:=[] }=some (.sc undef,au):=by
  have h6:x7 P d.o (bd d.o d.L) { h:=ij h [p],nx:=ga ds st0.nx ds.length,rl:=[],wl:=[] }=some (.sc undef,au):=by
   unfold x7
   rw [hop]
   simp only [ji,hu,hm,hkey,M.bind,bp,hgp,m9,hck,hfind,hst,cond_true,fk,M.pure,hst1]
   rw [show Nat.ble p bo=true from Nat.ble_eq_true_of_le hlim]
   rfl
  have h7:dh P T d.o (bd d.o d.L)=mono (x7 P d.o (bd d.o d.L)):=by unfold dh;rw [hop]
  rw [h7,mono,h6]
  simp only
  rw [hst1]
  simp only
  rw [show Nat.ble (ga ds st0.nx ds.length) (ga ds st0.nx ds.length)=true from Nat.ble_eq_true_of_le (Nat.le_refl _)]
  rfl
 unfold wpOpIn
 rw [ho]
 dsimp only
 rw [if_pos (by simp [Region.wanted,hgd])]
 refine An hT (h2.part hsub) (fun o q1 q2=>by rw [hst1] at q2;exact absurd (Nat.lt_of_le_of_lt q1 q2) (Nat.lt_irrefl _)) (fun o x hx=>?_) hrel hrun ro N _ _ ?_
 ·have hx':(ij h [p]).get o=some x:=hx
  rw [hmask] at hx'
  by_cases e:o=p
  ·subst e;exact hplt
  ·rw [if_neg e] at hx';cases hx'
 rintro u w' ⟨g',q1,q2,q3⟩
 have hget1:∀ o,au.h.get o=if o=p then some (.map (es++[(key,bd d.o d.L x)])) else none:=fun o=>by
  rw [hst1]
  simp only
  rw [dj _ _ _ _ hlim,hmask]
  by_cases e:o=p
  ·rw [if_pos e,if_pos e]
  ·rw [if_neg e,if_neg e,if_neg e]
 have hfs:=Mr (h':=mz au.h [p] h) (S:=fun o=>o ∈ [p]) h2 hsub (fun o x hx=>by
  rw [hmask] at hx
  by_cases e:o=p
  ·rw [e];exact List.mem_singleton.2 rfl
  ·rw [if_neg e] at hx;cases hx) q1 q2 (fun o hS=>by rw [ly _ _ _ _ hp,if_pos hS]) (fun o hS=>by rw [ly _ _ _ _ hp,if_neg hS]) (fun o e1 e2=>by rw [hst1] at e2;exact absurd (Nat.lt_of_le_of_lt e1 e2) (Nat.lt_irrefl _))
 have hH:∀ o,((mz au.h [p] h).set depth p (some (.map es'))).get o=H (ir D i) o:=fun o=>by
  rw [dj _ _ _ _ hlim]
  by_cases e:o=p
  ·rw [if_pos e,e,hes']
  ·rw [if_neg e,ly _ _ _ _ hp,if_neg (by simpa using e),h1,hoth o e]
 have hcov:∀ o y,((mz au.h [p] h).set depth p (some (.map es'))).get o=some y→∃ z,(mz au.h [p] h).get o=some z∧wq y z:=fun o y hy=>by
  rw [dj _ _ _ _ hlim] at hy
  by_cases e:o=p
  ·rw [if_pos e] at hy
   cases hy
   refine ⟨_,?_,hsame⟩
   rw [ly _ _ _ _ hp,if_pos (by simpa using e),hget1,if_pos e]
  ·rw [if_neg e] at hy
   exact ⟨y,hy,.rfl _⟩
 have hnx1:au.nx=ga ds st0.nx ds.length:=by rw [hst1]
 refine hK _ _ ⟨⟨g',_,hH,hfs.2.Uv hcov,(h3.both ((by have:=hfs.1;rw [hnx1] at this;exact this.Tf (jm mono1 ds.length 0 (Nat.zero_le _)) (Nat.le_refl _)))).Uv hcov,fun t=>?_,fun k e hk hkD o o1 o2=>?_⟩,by rw [K4];exact A.size,by rw [put_defers];exact A.defers,hcl⟩
 ·rw [K1 hi (fun q=>by rw [hdst] at q;cases q),if_neg (fun q=>by have:=q.1;rw [hdst] at this;cases this),hdst]
  exact (h4 t).ext q1.ext
 ·have hki:k≠i:=fun q=>by subst q;simp [ir] at hkD
  simp only [ir,if_neg hki] at hkD
  exact q1.fresh o (h5 k e hk hkD o o1 o2) (fun q=>by have:=q.2;rw [hnx1] at this;exact absurd (Nat.lt_of_le_of_lt q.1 this) (Nat.lt_irrefl _))
theorem Qe {P:Program} {T:cw} (hm:P.follows .mixedOrders=true) {H:(Nat→Bool)→Nat→Option aq} {ops:Array Oper} {ro:Option Nat} {N:Nat} {B:ee} {nt id:Nat} {Q:Exit→Act→World→Prop} {ds:List DS} {L:SL} {st:St} {L':SL} {st' stF:St} (R:p9 P T ops ds L st L' st')
 {g:Gh} {w:World} {a:Act} (h0:∀ o,H (fun _=>false) o=st.h.get o) (hF:∀ D,(∀ i,i<ds.length→D i=true)→∀ o,H D o=stF.h.get o) (hnF:stF.nx=st'.nx)
 (hstep:∀ (w0:World) (D:Nat→Bool) (a':Act) (w':World) (i:Nat) (d:DS) (Q:Exit→Act→World→Prop) (K:Act→World→Prop),ds[i]? = some d→D i=false→(∀ e ∈ d.o.after,Region.binds .any e=true→D e.on=true)→At H ops ds L g st w0 a.defers nt (ga ds st.nx ds.length) D a' w'→(∀ a'' w'',At H ops ds L g st w0 a.defers nt (ga ds st.nx ds.length) (ir D i) a'' w''→K a'' w'')→wpOpIn (ed ro) N P ops Q i K a' w')
 (hnear:B.qw st.nx st'.nx) (hc:dz B g st w) (hr:cx g w nt L a.tmps) (hd:Marks B.n0 st.h g w a.defers)
 (hK:∀ g w a',dz B g stF w→cx g w nt L' a'.tmps→Marks B.n0 stF.h g w a'.defers→a'.defers=a.defers→Q .normal a' w) :
 (Code.region id ops true).wpIn (ed ro) N P Q a w:=by
 have c1:=R.rj
 obtain ⟨c2,c3,c4⟩:=R.fin
 have hc1:=hc.drawn
 have hd':Marks B.n0 st.h g { w with drawn:=w.drawn+1 } a.defers:=hd
 have mono1:∀ i d,ds[i]? = some d→d.st.nx=ga ds st.nx i∧d.st.nx≤d.au.nx:=fun i d hd=>⟨(c1 i d hd).2.2.1,(c1 i d hd).2.2.2⟩
 refine wpIn_region_any hm (agh (H:=H) (L0:=L) (g0:=g) (st0:=st) (w0:={ w with drawn:=w.drawn+1 }) (df:=a.defers) R (fun D a w i d Q K hi hD hr A hK=>hstep _ D a w i d Q K hi hD hr A hK) ?_ ops.size _ a _ (by simp) ?_ ?_)
 ·intro D a' w' hall A
  obtain ⟨g',h',q1,q2,q3,q4,q5⟩:=A.mem
  have hh:∀ o,h'.get o=stF.h.get o:=fun o=>by rw [q1 o,hF D hall o]
  have hle:st.nx≤st'.nx:=by rw [c4];exact jm mono1 ds.length 0 (Nat.zero_le _)
  refine hK g' w' a' (hc1.step (st':=stF) (by rw [hnF];exact hnear) ⟨by rw [hnF];exact hle,?_⟩ (q2.congr hh)) ⟨A.size,fun t=>?_⟩ (by rw [A.defers];exact Marks.congr (Marks.step q3 hd') hh) A.defers
  ·rw [hnF,c4];exact q3.congr hh
  ·rw [c2 t,← J7 _ hall];exact q4 t
 ·exact O9 _ _
 ·have hf:(fun k=>(Array.replicate ops.size false).getD k false)=fun _=>false:=by
   funext k
   simp only [Array.getD_eq_getD_getElem?,Array.getElem?_replicate]
   split<;>rfl
  rw [hf]
  exact ⟨⟨g,st.h,fun o=>(h0 o).symm,hc1.ok,.refl _ _ _ _ _,fun t=>by
   rw [Gf];exact (hr.2 t).ext (Ext.same (w:=w) (w':={ w with drawn:=w.drawn+1 }) rfl),fun i d hd _ o h1 h9=>hc.fresh o (by
   have:=jm mono1 i 0 (Nat.zero_le _)
   rw [(c1 i d hd).2.2.1] at h1
   exact Nat.le_trans this h1) (hnear o (by
   have:=jm mono1 i 0 (Nat.zero_le _)
   rw [(c1 i d hd).2.2.1] at h1
   exact Nat.le_trans this h1) (by
   rw [c4]
   have h10:=jm mono1 ds.length (i+1) (List.getElem?_eq_some_iff.1 hd).1
   rw [ga.eq_2,hd] at h10
   exact Nat.lt_of_lt_of_le h9 h10))⟩,hr.1,rfl,fun i k hik=>by cases hik⟩
theorem Ag {ds:List DS} {h0:Tr aq} {D:Nat→Bool} {p:Nat}:∀ m,(∀ k e,k<m→ds[k]? = some e→D k=true→p ∉ e.W)→gu ds h0 D m p=h0.get p
 |0,_=>rfl
 |m+1,h=>by
  have ih:=Ag (h0:=h0) (D:=D) (p:=p) m (fun k e hk=>h k e (by omega))
  rw [gu]
  cases hd:ds[m]? with
  |none=>exact ih
  |some d=>
   simp only
   rw [if_neg (fun q=>h m d (by omega) hd q.1 q.2),ih]
theorem P3 {ds:List DS} {h0:Tr aq} {D:Nat→Bool} {p k0:Nat} {d:DS} (hd:ds[k0]? = some d) (hW:p ∈ d.W) (hD:D k0=true) (ho:∀ k e,ds[k]? = some e→k≠k0→p ∉ e.W):∀ m,k0<m→gu ds h0 D m p=d.au.h.get p
 |0,h=>by omega
 |m+1,h=>by
  rw [gu]
  by_cases e:m=k0
  ·subst e
   rw [hd]
   simp only
   rw [if_pos ⟨hD,hW⟩]
  ·have ih:=P3 (h0:=h0) hd hW hD ho m (by omega)
   cases hm:ds[m]? with
   |none=>exact ih
   |some f=>
    simp only
    rw [if_neg (fun q=>ho m f hm e q.2),ih]
def Hm (ds:List DS) (h0:Tr aq) (p k0:Nat) (lits:List Lit) (D:Nat→Bool) (o:Nat):Option aq:=if o=p then (if D k0=true then some (.map (m5 lits D)) else h0.get p) else gu ds h0 D ds.length o
structure ao6 (P:Program) (ops:Array Oper) (ds:List DS) (p k0:Nat) (q:Lit):Prop where
 rj:∃ d,ds[q.i]? = some d∧∃ t m k x kt et,d.o.op = .insert t m k x∧d.o.dst=none∧d.o.guard=none∧P.underlying t=some (.map kt et)∧P.underlying kt=some q.d∧bd d.o d.L m = .mp p∧(bd d.o d.L k).du=some q.e.1∧ev P (Instr.checkKey false 10000 kt q.e.1)=some ()∧bd d.o d.L x=q.e.2
 bef:((Region.before ops).getD q.i 0).testBit k0=true
theorem agn {P:Program} {T:cw} (hT:ll P T) (hm:P.follows .mixedOrders=true) {ops:Array Oper} {ro:Option Nat} {N:Nat} {B:ee} {nt id:Nat} {Q:Exit→Act→World→Prop} (hg:mq nt ops=true) (hdst:qf nt ops=true) {ds:List DS} {L:SL} {st:St} {L':SL} {st' stF:St} (R:p9 P T ops ds L st L' st') (C:Calm ops ds)
 (hgY:∀ d ∈ ds,q9 ops d.L d.o=some d.want) {p k0:Nat} {lits:List Lit} (hl:Vr lits) (hat:∀ q ∈ lits,ao6 P ops ds p k0 q) (hall:∀ i d,ds[i]? = some d→p0 d.o=true→∃ q ∈ lits,q.i=i) {d0:DS} (hk0:ds[k0]? = some d0) (hk0':p0 d0.o=false) (hno:∀ k e,ds[k]? = some e→k≠k0→p ∉ e.R∧p ∉ e.W)
 (hp:st'.h.get p=some (.map [])) (hplt:p<st'.nx) (hlim:p≤bo) (hF:∀ o,stF.h.get o=if o=p then some (.map (lits.map (·.e))) else st'.h.get o) (hnF:stF.nx=st'.nx)
 {g:Gh} {w:World} {a:Act} (hnear:B.qw st.nx st'.nx) (hc:dz B g st w) (hr:cx g w nt L a.tmps) (hd:Marks B.n0 st.h g w a.defers)
 (hK:∀ g w a',dz B g stF w→cx g w nt L' a'.tmps→Marks B.n0 stF.h g w a'.defers→a'.defers=a.defers→Q .normal a' w) :
 (Code.region id ops true).wpIn (ed ro) N P Q a w:=by
 have hlt0:k0<ds.length:=(List.getElem?_eq_some_iff.1 hk0).1
 have hlen:∀ q ∈ lits,q.i<ds.length:=fun q hq=>by
  obtain ⟨d,h1,_⟩:=(hat q hq).rj
  exact (List.getElem?_eq_some_iff.1 h1).1
 have hne0:∀ q ∈ lits,q.i≠k0:=fun q hq e=>by
  obtain ⟨d,h1,t,m,k,x,kt,et,h2,_⟩:=(hat q hq).rj
  rw [e,hk0] at h1
  cases h1
  unfold p0 at hk0'
  rw [h2] at hk0'
  cases hk0'
 have hfin:gu ds st.h (fun _=>true) ds.length p=some (.map []):=by rw [← R.fin.2.1 p,hp]
 have hW0:p ∈ d0.W→d0.au.h.get p=some (.map []):=fun hW=>by
  rw [← P3 (h0:=st.h) (D:=fun _=>true) hk0 hW rfl (fun k e hk hne=>(hno k e hk hne).2) ds.length hlt0];exact hfin
 have hN0:p ∉ d0.W→st.h.get p=some (.map []):=fun hW=>by
  rw [← Ag (h0:=st.h) (D:=fun _=>true) (p:=p) ds.length (fun k e _ hk _=>by
   by_cases h:k=k0
   ·rw [h,hk0] at hk;cases hk;exact hW
   ·exact (hno k e hk h).2)]
  exact hfin
 have hnx:st'.nx=ga ds st.nx ds.length:=R.fin.2.2
 refine Qe hm (H:=Hm ds st.h p k0 lits) (stF:=stF) R (fun o=>?_) (fun D hD o=>?_) hnF (fun w0 D a' w' i d Q K hi hD hrd A hK=>?_) hnear hc hr hd hK
 ·unfold Hm
  by_cases e:o=p
  ·rw [if_pos e,if_neg (by simp),e]
  ·rw [if_neg e,A2]
 ·unfold Hm
  rw [hF]
  by_cases e:o=p
  ·rw [if_pos e,if_pos e,if_pos (hD k0 hlt0),ajy (fun q hq=>hD _ (hlen q hq))]
  ·rw [if_neg e,if_neg e,D7 _ hD,← R.fin.2.1 o]
 ·have hbef:=sf A.closed (R.get hi) hrd
  have hmem:=List.mem_of_getElem? hi
  have hgv:=hgY d hmem
  have hcalm:=zl R C hi hD A.closed hrd
  cases hins:p0 d.o with
  |false=>
   have hgv':tx ops d.L d.o=some d.want:=by unfold q9 at hgv;rw [hins] at hgv;exact hgv
   have hnl:∀ q ∈ lits,q.i≠i:=fun q hq e=>by
    obtain ⟨d',h1,t,m,k,x,kt,et,h2,_⟩:=(hat q hq).rj
    rw [e,hi] at h1
    cases h1
    unfold p0 at hins
    rw [h2] at hins
    cases hins
   refine At.step hT R hg hdst hi hgv' (fun o ho=>?_) (fun o=>?_) hD hrd A hK
   ·unfold Hm
    by_cases e:o=p
    ·subst e
     by_cases hik:i=k0
     ·subst hik
      rw [if_pos rfl,if_neg (by rw [hD];simp)]
      rw [(R.rj i d hi).2.1 o,Ag i (fun k e hk he _=>(hno k e he (by omega)).2)]
     ·exact ((hno i d hi hik).1 ho).elim
    ·rw [if_neg e];exact hcalm.1 o ho
   ·unfold Hm
    by_cases e:o=p
    ·subst e
     rw [if_pos rfl,if_pos rfl]
     by_cases hik:i=k0
     ·subst hik
      rw [hk0] at hi
      cases hi
      have hen:m5 lits (ir D i)=[]:=af0 (fun q hq=>by
       have hne:=hne0 q hq
       simp only [ir,if_neg hne]
       cases hDq:D q.i with
       |false=>rfl
       |true=>have:=A.closed q.i i hDq (hat q hq).bef;rw [hD] at this;cases this)
      rw [if_pos (show ir D i i=true from by simp [ir]),hen]
      by_cases hW:o ∈ d0.W
      ·rw [if_pos hW,hW0 hW]
      ·rw [if_neg hW,if_neg (by rw [hD];simp),hN0 hW]
     ·rw [if_neg (hno i d hi hik).2,abw hnl]
      simp only [ir,if_neg (Ne.symm hik)]
    ·rw [if_neg e,if_neg e];exact hcalm.2 o
  |true=>
   obtain ⟨q,hq,rfl⟩:=hall i d hi hins
   obtain ⟨d',h1,t,m,k,x,kt,et,h2,h3,h4,h5,h6,h7,h8,h9,h10⟩:=(hat q hq).rj
   rw [hi] at h1
   cases h1
   have hDk:D k0=true:=hbef k0 (hat q hq).bef
   have hne:=hne0 q hq
   have hothers:∀ e ∈ m5 lits D,∃ r ∈ lits,r.i≠q.i∧r.e=e:=fun e he=>by
    obtain ⟨r,r1,r2,r3⟩:=Xy he
    exact ⟨r,r1,(fun e=>by rw [e,hD] at r2;cases r2),r3⟩
   have hperm:=ai7 hl.idx hq hD
   have hW:d.W=[]:=by
    have:d.want=false:=by
     unfold q9 at hgv
     rw [hins] at hgv
     simpa using hgv.symm
    exact ((R.ok d hmem).skip this).2.2.2
   refine At.ins hT R hi hD hrd A h2 h3 h4 h5 h7 h8 h9 (es:=m5 lits D) (es':=m5 lits (ir D q.i)) ?_ hlim (by rw [← hnx];exact hplt) (acs h6 (fun e he=>?_)) ?_ ?_ ?_ (fun o e=>?_) hK
   ·unfold Hm;rw [if_pos rfl,if_pos hDk]
   ·obtain ⟨r,r1,r2,rfl⟩:=hothers e he
    exact (hl.apart q hq r r1 (Ne.symm r2)).2
   ·have hqe:(q.e.1,bd d.o d.L x)=q.e:=by rw [h10]
    rw [hqe]
    unfold stays
    cases hlo:loose (m5 lits D) with
    |false=>rfl
    |true=>
     have:loose (m5 lits D++[q.e])=true:=by
      unfold loose at hlo ⊢
      simp only [Bool.and_eq_true] at hlo ⊢
      refine ⟨Nat.ble_eq_true_of_le (by have:=Nat.le_of_ble_eq_true hlo.1;rw [List.length_append];omega),?_⟩
      have key:∀ l:List (Value × AV),nn l=true→(∀ e ∈ l,lj e.1 q.e.1=true)→nn (l++[q.e])=true:=by
       intro l
       induction l with
       |nil=>intro _ _;rfl
       |cons b l ih=>
        intro h1 h2
        simp only [nn,List.cons_append,Bool.and_eq_true,List.all_eq_true] at h1 ⊢
        refine ⟨fun y hy=>?_,ih h1.2 (fun e he=>h2 e (by simp [he]))⟩
        rcases List.mem_append.1 hy with hy|hy
        ·exact h1.1 y hy
        ·rw [List.mem_singleton] at hy;rw [hy];exact h2 b (by simp)
      refine key _ hlo.2 (fun e he=>?_)
      obtain ⟨r,r1,r2,rfl⟩:=hothers e he
      exact (hl.apart r r1 q hq r2).1
     rw [this];rfl
   ·unfold Hm;rw [if_pos rfl,if_pos (by simp [ir,hDk])]
   ·have hqe:(q.e.1,bd d.o d.L x)=q.e:=by rw [h10]
    rw [hqe]
    by_cases h2 : 2≤(m5 lits (ir D q.i)).length
    ·refine .perm _ _ hperm ?_
     unfold loose
     rw [Nat.ble_eq_true_of_le h2,Ip hl]
     rfl
    ·have h3:(m5 lits D).length=0:=by have:=hperm.length_eq;rw [List.length_append] at this;simp at this;omega
     have h4:m5 lits D=[]:=List.eq_nil_of_length_eq_zero h3
     rw [h4] at hperm ⊢
     rw [List.nil_append] at hperm ⊢
     rw [List.perm_singleton.1 hperm]
     exact .rfl _
   ·unfold Hm
    rw [if_neg e,if_neg e,hcalm.2 o,hW,if_neg (by simp)]
end
end Go.Vm
namespace Go.Vm
noncomputable section
abbrev eg:=Nat→Option (Bool × (List AV→M AV))
def Du:Nat:=10000
def Nd (look:eg) (f:Nat) (args:List AV):M AV:=
 bif Nat.blt f Du then
  match look f with
  |some p=>mono (p.2 args)
  |none=>.fail
 else .fail
def zk (look:eg) (g:Fn) (args:List AV):M AV:=
 match g with
 |.func g=>Nd look g args
 |_=>.fail
def Gw (look:eg) (f:AV) (args:List AV):M AV:=
 match f with
 |.fn g first captured=>zk look g (first++args++captured)
 |.sc x=>
  match x with
  |.func g first captured=>zk look g (first.toList.map .sc++args++captured.toList.map .sc)
  |_=>.fail
 |_=>.fail
def Ax (P:Program) (look:eg) (o:Oper) (ρ:Operand→AV):M AV:=
 match o.op with
 |.call { callee:=.value f,args,.. }=>Gw look (ρ f) (args.toList.map ρ)
 |_=>mono (x7 P o ρ)
def ah {α:Type} (m:M α):Prop:=∀ st a au,m st=some (a,au)→st.nx≤au.nx
theorem ah.pure {α:Type} (a : α):ah (M.pure a):=fun st _ au h=>by cases h;exact Nat.le_refl _
theorem ah.fail {α:Type}:ah (M.fail:M α):=fun st _ au h=>by cases h
theorem ah.of {α:Type} (a:Option α):ah (M.of a):=by cases a;exact ah.fail;exact ah.pure _
theorem ah.cond {α:Type} {b:Bool} {x y:M α} (hx:ah x) (hy:ah y):ah (bif b then x else y):=by cases b<;>assumption
theorem ah.bind {α β:Type} {m:M α} {f : α→M β} (hm:ah m) (hf:∀ x,ah (f x)):ah (m.bind f):=fun st b st2 h=>by
 obtain ⟨x,s1,h1,h2⟩:=bind_some h
 exact Nat.le_trans (hm _ _ _ h1) (hf x _ _ _ h2)
theorem ah.bp (id:Nat):ah (Vm.bp id):=fun st a au h=>by
 unfold Vm.bp at h
 split at h
 ·cases h;exact Nat.le_refl _
 ·cases h
theorem ah.fk (id:Nat) (x:aq):ah (Vm.fk id x):=fun st a au h=>by
 unfold Vm.fk at h
 split at h
 ·cases hb:Nat.ble id bo with
  |true=>rw [hb] at h;cases h;exact Nat.le_refl _
  |false=>rw [hb] at h;cases h
 ·cases h
theorem ah.qx (id:Nat):ah (Vm.qx id):=fun st a au h=>by
 unfold Vm.qx at h
 split at h
 ·cases hb:Nat.ble id bo with
  |true=>rw [hb] at h;cases h;exact Nat.le_refl _
  |false=>rw [hb] at h;cases h
 ·cases h
theorem ah.eu (x:aq):ah (Vm.eu x):=fun st a au h=>by
 unfold Vm.eu at h
 cases hb:Nat.ble st.nx bo with
 |true=>rw [hb] at h;cases h;exact Nat.le_succ _
 |false=>rw [hb] at h;cases h
theorem ah.mono {α:Type} {m:M α} (h:ah m):Vm.mono m=m:=by
 funext st
 unfold Vm.mono
 cases hm:m st with
 |none=>rfl
 |some p=>
  obtain ⟨a,au⟩:=p
  simp only
  rw [show Nat.ble st.nx au.nx=true from Nat.ble_eq_true_of_le (h st a au hm)]
  rfl
theorem ah.cellsIn (sz:Nat) (v:AV):ah (Vm.cellsIn sz v):=by
 unfold Vm.cellsIn ud
 repeat' (first|exact ah.pure _|exact ah.fail|exact ah.bp _|apply ah.cond|(refine ah.bind ?_ fun x=>?_)|split)
theorem ah.vh {P:Program} {ρ:Operand→AV} {o:Oper} {l:List Operand}:ah (fg P ρ o l):=by unfold fg;exact ah.cond (ah.of _) ah.fail
theorem ah.bx {t:TypeId} {x:AV}:ah (tr t x):=by
 unfold tr
 repeat' (first|exact ah.pure _|exact ah.fail|exact ah.eu _|apply ah.cond|(refine ah.bind ?_ fun x=>?_)|split)
theorem aeu {P:Program} {o:Oper} {ρ:Operand→AV}:ah (x7 P o ρ):=by
 unfold x7
 cases ho:o.op with
 |move x=>exact ah.pure _
 |assign x=>exact ah.pure _
 |load t a=>
  show ah (gi P t (ρ a))
  unfold gi su
  repeat' (first|exact ah.pure _|exact ah.fail|exact ah.of _|exact ah.bp _|(refine ah.bind ?_ fun x=>?_)|split)
 |fieldAddr s x f=>
  show ah (i4 P s (ρ x) f)
  unfold i4
  repeat' (first|exact ah.pure _|exact ah.fail|exact ah.of _|apply ah.cond|split)
 |binOp op t x y u=>
  show ah (tp P ρ o op t x y)
  have he:∀ a b,ah (jc P ρ o op t a b):=fun a b=>by
   unfold jc vg y8 zj S8 Td Na Fu kc
   repeat' (first|exact ah.pure _|exact ah.fail|exact ah.of _|exact ah.bp _|apply ah.cond|(refine ah.bind ?_ fun x=>?_)|split)
  unfold tp zi G7
  repeat' (first|exact he _ _|exact ah.pure _|exact ah.fail|exact ah.of _|apply ah.cond|split)
 |pick c a b=>
  show ah (qg (ρ c) (ρ a) (ρ b))
  unfold qg
  repeat' (first|exact ah.pure _|exact ah.fail|split)
 |store t a x=>
  show ah (mo P t (ρ a) (ρ x))
  unfold mo sb
  repeat' (first|exact ah.pure _|exact ah.fail|exact ah.bp _|exact ah.fk _ _|apply ah.cond|(refine ah.bind ?_ fun x=>?_)|split)
 |mapUpdate t m k x=>
  show ah (ji P t (ρ m) (ρ k) (ρ x))
  unfold ji m9
  repeat' (first|exact ah.pure _|exact ah.fail|exact ah.bp _|exact ah.fk _ _|apply ah.cond|(refine ah.bind ?_ fun x=>?_)|split)
 |insert t m k x=>
  show ah (ji P t (ρ m) (ρ k) (ρ x))
  unfold ji m9
  repeat' (first|exact ah.pure _|exact ah.fail|exact ah.bp _|exact ah.fk _ _|apply ah.cond|(refine ah.bind ?_ fun x=>?_)|split)
 |extract t ix=>
  show ah (l0 (ρ t) ix)
  unfold l0
  repeat' (first|exact ah.pure _|exact ah.fail|exact ah.of _|split)
 |indexAddr t x ix=>
  show ah (i7 P t (ρ x) (ρ ix))
  unfold i7 qp
  repeat' (first|exact ah.pure _|exact ah.fail|exact ah.of _|apply ah.cond|split)
 |nilCheck x=>
  show ah (jx (ρ x))
  unfold jx
  repeat' (first|exact ah.pure _|exact ah.fail|split)
 |alloc t=>
  show ah (n7 P t)
  unfold n7
  split
  ·exact ah.fail
  ·exact ah.bx
 |box t x=>exact ah.bx
 |build t ps=>
  show ah (nh P t _)
  unfold nh
  repeat' (first|exact ah.pure _|exact ah.fail|exact ah.of _|split)
 |buildSlice t len ps=>
  show ah (gh P t len _)
  unfold gh jj
  repeat' (first|exact ah.eu _|exact ah.pure _|exact ah.fail|exact ah.of _|apply ah.cond|(refine ah.bind ?_ fun x=>?_)|split)
 |makeSlice t l c=>
  show ah (nd P t (ρ l) (ρ c))
  unfold nd jj
  repeat' (first|exact ah.eu _|exact ah.pure _|exact ah.fail|exact ah.of _|apply ah.cond|(refine ah.bind ?_ fun x=>?_)|split)
 |makeMap t r=>
  show ah (po r)
  unfold po
  repeat' (first|exact ah.eu _|exact ah.pure _|exact ah.fail|(refine ah.bind ?_ fun x=>?_)|split)
 |makeFunc f a b=>exact ah.pure _
 |convert src dst x=>
  show ah (l6 P ρ o src dst (ρ x))
  have he:ah (ot P ρ o (ρ x)):=by unfold ot;split;exact ah.of _;exact ah.fail
  unfold l6 iy
  repeat' (first|exact he|exact ah.fail|split)
  ·unfold z5;repeat' (first|exact ah.eu _|exact ah.pure _|exact ah.fail|apply ah.cond|(refine ah.bind ?_ fun x=>?_)|split)
  ·unfold C3 wh;repeat' (first|exact ah.cellsIn _ _|exact ah.pure _|exact ah.fail|apply ah.cond|(refine ah.bind ?_ fun x=>?_)|split)
  ·unfold C0 z3;repeat' (first|exact ah.bp _|exact ah.pure _|exact ah.fail|apply ah.cond|(refine ah.bind ?_ fun x=>?_)|split)
  ·unfold Dc Aj;repeat' (first|exact ah.bp _|exact ah.pure _|exact ah.fail|apply ah.cond|(refine ah.bind ?_ fun x=>?_)|split)
  ·unfold zd;repeat' (first|exact ah.pure _|exact ah.fail|split)
 |makeInterface t x=>
  show ah (jn P t (ρ x))
  unfold jn
  repeat' (first|exact ah.pure _|exact ah.fail|split)
 |field s x f=>
  show ah (pf P s (ρ x) f)
  unfold pf
  repeat' (first|exact ah.pure _|exact ah.fail|exact ah.of _|split)
 |index t x ix=>
  show ah (pk P ρ o t x ix)
  unfold pk
  repeat' (first|exact ah.vh|exact ah.pure _|exact ah.fail|exact ah.of _|apply ah.cond|split)
 |slice t x lo hi mx=>
  show ah (n9 P ρ o t x lo hi mx)
  unfold n9 Ke
  repeat' (first|exact ah.vh|exact ah.bp _|exact ah.pure _|exact ah.fail|exact ah.of _|apply ah.cond|(refine ah.bind ?_ fun x=>?_)|split)
 |lookup t x ix ok=>
  show ah (nl P t (ρ x) (ρ ix) ok)
  unfold nl oh found
  repeat' (first|exact ah.bp _|exact ah.pure _|exact ah.fail|exact ah.of _|apply ah.cond|(refine ah.bind ?_ fun x=>?_)|split)
 |typeAssert x t a ok=>
  show ah (mc P ρ o (ρ x) a ok)
  unfold mc
  repeat' (first|exact ah.pure _|exact ah.fail|exact ah.of _|apply ah.cond|split)
 |unOp op t x=>exact ah.vh
 |call c=>
  obtain ⟨callee,args,ts⟩:=c
  cases callee with
  |value f=>exact ah.fail
  |invoke r m=>exact ah.fail
  |builtin b=>
   show ah (pq P ρ o b args.toList ts)
   unfold pq
   split<;>first|exact ah.fail|exact ah.vh|skip
   ·unfold oa Xi
    repeat' (first|exact ah.bp _|exact ah.pure _|exact ah.fail|(refine ah.bind ?_ fun x=>?_)|split)
   ·have ha:∀ e sz bytes s new,ah (ln e sz bytes s new):=fun e sz bytes s new=>by
     unfold ln uo jj
     repeat' (first|exact ah.bp _|exact ah.eu _|exact ah.qx _|exact ah.pure _|exact ah.fail|apply ah.cond|(refine ah.bind ?_ fun x=>?_)|split)
    unfold ki
    repeat' (first|exact ha _ _ _ _ _|exact ah.cellsIn _ _|exact ah.pure _|exact ah.fail|apply ah.cond|(refine ah.bind ?_ fun x=>?_)|split)
   ·unfold Db H5
    repeat' (first|exact ah.bp _|exact ah.fk _ _|exact ah.cellsIn _ _|exact ah.pure _|exact ah.fail|apply ah.cond|(refine ah.bind ?_ fun x=>?_)|split)
   ·unfold we x6
    repeat' (first|exact ah.bp _|exact ah.fk _ _|exact ah.pure _|exact ah.fail|apply ah.cond|(refine ah.bind ?_ fun x=>?_)|split)
   ·unfold xj
    repeat' (first|exact ah.pure _|exact ah.fail|split)
   ·unfold i6
    repeat' (first|exact ah.pure _|exact ah.fail|apply ah.cond|split)
   ·unfold ft sj
    repeat' (first|exact ah.bp _|exact ah.fk _ _|exact ah.pure _|exact ah.fail|apply ah.cond|(refine ah.bind ?_ fun x=>?_)|split)
 |_=>exact ah.fail
structure XA where
 run:eg→(Operand→AV)→M AV
def ao3 (P:Program) (o:Oper) (op:BinOp) (t:TypeId) (x y:Operand):XA:=⟨fun _ ρ=>tp P ρ o op t x y⟩
def aj2 (P:Program) (o:Oper) (b:Builtin) (args:List Operand) (ts:Array TypeId):XA:=
 match b,args with
 |.len,[x]=>⟨fun _ ρ=>(oa ((ts[0]?).bind P.underlying) (ρ x))⟩
 |.append,[s,x]=>⟨fun _ ρ=>(ki P ts[0]? ((ts[1]?).bind P.underlying) (ρ s) (ρ x))⟩
 |.copy,[d,x]=>⟨fun _ ρ=>(Db P ts[0]? (ρ d) (ρ x))⟩
 |.delete,[m,k]=>⟨fun _ ρ=>(we P ((ts[0]?).bind P.underlying) (ρ m) (ρ k))⟩
 |.cap,[x]=>⟨fun _ ρ=>(xj ((ts[0]?).bind P.underlying) (ρ x))⟩
 |.unsafeSliceData,[x]=>⟨fun _ ρ=>(i6 (ρ x))⟩
 |.unsafeString,[x,y]=>⟨fun _ ρ=>(ft P ts[0]? (ρ x) (ρ y))⟩
 |.min,l=>⟨fun _ ρ=>(fg P ρ o l)⟩
 |.max,l=>⟨fun _ ρ=>(fg P ρ o l)⟩
 |_,_=>⟨fun _ _=>.fail⟩
def jk (P:Program) (o:Oper):XA:=
 match o.op with
 |.move x=>⟨fun _ ρ=>(.pure (ρ x))⟩
 |.assign x=>⟨fun _ ρ=>(.pure (ρ x))⟩
 |.load t a=>⟨fun _ ρ=>(gi P t (ρ a))⟩
 |.fieldAddr s x f=>⟨fun _ ρ=>(i4 P s (ρ x) f)⟩
 |.binOp op t x y _=>ao3 P o op t x y
 |.pick c a b=>⟨fun _ ρ=>(qg (ρ c) (ρ a) (ρ b))⟩
 |.store t a x=>⟨fun _ ρ=>(mo P t (ρ a) (ρ x))⟩
 |.extract t ix=>⟨fun _ ρ=>(l0 (ρ t) ix)⟩
 |.call { callee:=.value f,args,.. }=>⟨fun look ρ=>Gw look (ρ f) (args.toList.map ρ)⟩
 |.call { callee:=.builtin b,args,argTypes }=>aj2 P o b args.toList argTypes
 |.indexAddr t x ix=>⟨fun _ ρ=>(i7 P t (ρ x) (ρ ix))⟩
 |.nilCheck x=>⟨fun _ ρ=>(jx (ρ x))⟩
 |.alloc t=>⟨fun _ _=>(n7 P t)⟩
 |.box t x=>⟨fun _ ρ=>(tr t (ρ x))⟩
 |.build t parts=>⟨fun _ ρ=>(nh P t (parts.toList.map fun p=>(p.1,ρ p.2)))⟩
 |.buildSlice t len parts=>⟨fun _ ρ=>(gh P t len (parts.toList.map fun p=>(p.1,ρ p.2)))⟩
 |.makeSlice t l c=>⟨fun _ ρ=>(nd P t (ρ l) (ρ c))⟩
 |.makeMap _ r=>⟨fun _ _=>(po r)⟩
 |.makeFunc f first captured=>⟨fun _ ρ=>(.pure (.fn f (first.toList.map ρ) (captured.toList.map ρ)))⟩
 |.convert src dst x=>⟨fun _ ρ=>(l6 P ρ o src dst (ρ x))⟩
 |.makeInterface t x=>⟨fun _ ρ=>(jn P t (ρ x))⟩
 |.field s x f=>⟨fun _ ρ=>(pf P s (ρ x) f)⟩
 |.index t x ix=>⟨fun _ ρ=>(pk P ρ o t x ix)⟩
 |.slice t x lo hi mx=>⟨fun _ ρ=>(n9 P ρ o t x lo hi mx)⟩
 |.lookup t x ix ok=>⟨fun _ ρ=>(nl P t (ρ x) (ρ ix) ok)⟩
 |.mapUpdate t m k x|.insert t m k x=>⟨fun _ ρ=>(ji P t (ρ m) (ρ k) (ρ x))⟩
 |.typeAssert x _ asserted ok=>⟨fun _ ρ=>(mc P ρ o (ρ x) asserted ok)⟩
 |.unOp _ _ x=>⟨fun _ ρ=>(fg P ρ o [x])⟩
 |_=>⟨fun _ _=>.fail⟩
theorem Eb (P:Program) (look:eg) (o:Oper) (ρ:Operand→AV):(jk P o).run look ρ=Ax P look o ρ:=by
 have key:∀ (h:∀ f args ts,o.op ≠ .call { callee:=.value f,args,argTypes:=ts }),(jk P o).run look ρ=x7 P o ρ:=by
  intro h
  unfold jk x7
  cases ho:o.op with
  |call c=>
   obtain ⟨callee,args,ts⟩:=c
   cases callee with
   |builtin b=>
    dsimp only
    unfold aj2 pq
    generalize args.toList=l
    cases b<;>rcases l with _|⟨x,_|⟨y,_|⟨z,l⟩⟩⟩<;>rfl
   |value f=>exact (h f args ts ho).elim
   |_=>rfl
  |_=>rfl
 unfold Ax
 split
 ·rename_i f args ts ho
  unfold jk
  rw [ho]
 ·rename_i hn
  rw [aeu.mono]
  exact key hn
def Hy (look:eg):Nat→cw
 |0=>[]
 |n+1=>
  match look n with
  |some p=>(n,p.1,p.2)::Hy look n
  |none=>Hy look n
theorem Ed (look:eg) (f:Nat):∀ n,(Hy look n).find f=if f<n then look f else none
 |0=>by simp [Hy,cw.find]
 |n+1=>by
  rw [Hy]
  cases hl:look n with
  |some p=>
   simp only [cw.find]
   by_cases e:n=f
   ·subst e;simp [hl]
   ·rw [ka e,cond_false,Ed look f n]
    by_cases h:f<n
    ·rw [if_pos h,if_pos (by omega)]
    ·rw [if_neg h,if_neg (by omega)]
  |none=>
   simp only
   rw [Ed look f n]
   by_cases h:f<n
   ·rw [if_pos h,if_pos (by omega)]
   ·rw [if_neg h]
    by_cases e:f=n
    ·subst e;rw [if_pos (by omega),hl]
    ·rw [if_neg (by omega)]
def pc (look:eg):cw:=Hy look Du
theorem Ri (look:eg) (f:Nat):(pc look).find f=bif Nat.blt f Du then look f else none:=by
 rw [pc,Ed]
 by_cases h:f<Du
 ·rw [if_pos h,show Nat.blt f Du=true from by simpa using h];rfl
 ·rw [if_neg h,show Nat.blt f Du=false from by cases hb:Nat.blt f Du with|false=>rfl|true=>exact (h (by simpa using hb)).elim];rfl
theorem aj0 (look:eg):Nd look=ox (pc look):=by
 funext f args
 unfold Nd ox
 rw [Ri]
 cases Nat.blt f Du with
 |false=>rfl
 |true=>cases look f<;>rfl
theorem Kx (P:Program) (look:eg):Ax P look=dh P (pc look):=by
 have h1:zk look=Ge (pc look):=by funext g args;unfold zk Ge;rw [aj0];rfl
 have h2:Gw look=qb (pc look):=by funext f args;unfold Gw qb;rw [h1];rfl
 funext o ρ
 unfold Ax dh
 rw [h2]
 rfl
def zz (P:Program) (look:eg) (ops:Array Oper) (o:Oper) (L:SL) (st:St):Option (SL × St):=
 match tx ops L o with
 |some true=>
  match (jk P o).run look (bf L) st with
  |some (v,st')=>some (fc o.dst v L,st')
  |none=>none
 |some false=>some (fc o.dst (.sc undef) L,st)
 |none=>none
structure XO where
 run:eg→SL→St→Option (SL × St)
def ab7 (P:Program) (o:Oper) (d:Nat):XO:=
 match o.op with
 |.move x=>⟨fun _ L st=>some ((d,bf L x)::L,st)⟩
 |.assign x=>⟨fun _ L st=>some ((d,bf L x)::L,st)⟩
 |_=>⟨fun look L st=>Option.rec (motive:=fun _=>Option (SL × St)) none (fun p=>some ((d,p.1)::L,p.2)) ((jk P o).run look (bf L) st)⟩
def vr (P:Program) (ops:Array Oper) (o:Oper):XO:=
 match o.guard with
 |none=>
  match o.dst with
  |some d=>ab7 P o d
  |none=>⟨fun look L st=>Option.rec (motive:=fun _=>Option (SL × St)) none (fun p=>some (L,p.2)) ((jk P o).run look (bf L) st)⟩
 |some _=>⟨fun look L st=>zz P look ops o L st⟩
theorem D2 (P:Program) (look:eg) (ops:Array Oper) (o:Oper) (L:SL) (st:St):(vr P ops o).run look L st=zz P look ops o L st:=by
 unfold vr
 cases hg:o.guard with
 |some q=>rfl
 |none=>
  have hx:zz P look ops o L st=match (jk P o).run look (bf L) st with
   |some (v,st')=>some (fc o.dst v L,st')
   |none=>none:=by
   unfold zz tx
   rw [hg]
  rw [hx]
  cases hd:o.dst with
  |none=>
   show Option.rec (motive:=fun _=>Option (SL × St)) none (fun p=>some (L,p.2)) ((jk P o).run look (bf L) st)=_
   cases (jk P o).run look (bf L) st<;>rfl
  |some d=>
   show (ab7 P o d).run look L st=_
   unfold ab7
   cases ho:o.op with
   |move x=>rw [show (jk P o).run look (bf L) st=some (bf L x,st) from by unfold jk;rw [ho];rfl];rfl
   |assign x=>rw [show (jk P o).run look (bf L) st=some (bf L x,st) from by unfold jk;rw [ho];rfl];rfl
   |_=>
    show Option.rec (motive:=fun _=>Option (SL × St)) none (fun p=>some ((d,p.1)::L,p.2)) ((jk P o).run look (bf L) st)=_
    cases (jk P o).run look (bf L) st<;>rfl
theorem Uc {P look ops o L st r} (h:(vr P ops o).run look L st=some r):zz P look ops o L st=some r:=by rw [← D2];exact h
def pd (P:Program) (ops:Array Oper) (l:List Oper):XO:=
 List.rec (motive:=fun _=>XO) ⟨fun _ L st=>some (L,st)⟩ (fun o _ ih=>⟨fun look L st=>
  Option.rec (motive:=fun _=>Option (SL × St)) none (fun p=>ih.run look p.1 p.2) ((vr P ops o).run look L st)⟩) l
theorem B9 (P:Program) (look:eg) (ops:Array Oper) (o:Oper) (l:List Oper) (L:SL) (st:St):(pd P ops (o::l)).run look L st=(match (vr P ops o).run look L st with|some p=>(pd P ops l).run look p.1 p.2|none=>none):=by
 show Option.rec (motive:=fun _=>Option (SL × St)) none (fun p=>(pd P ops l).run look p.1 p.2) ((vr P ops o).run look L st)=_
 cases (vr P ops o).run look L st<;>rfl
theorem aep {P:Program} {look:eg} {ops:Array Oper} {t:Nat}:∀ (l:List Oper) (L:SL) (st:St) (p:SL × St),(pd P ops l).run look L st=some p→(∀ o ∈ l,o.dst≠some t)→lk p.1 t=lk L t:=by
 intro l
 induction l with
 |nil=>intro L st p h _;cases h;rfl
 |cons o l ih=>
  intro L st p h hn
  rw [B9] at h
  cases h1:(vr P ops o).run look L st with
  |none=>rw [h1] at h;cases h
  |some q=>
   rw [h1] at h
   rw [ih _ _ p h (fun o ho=>hn o (by simp [ho]))]
   have h2:=Uc h1
   have hq:∃ v,q.1=fc o.dst v L:=by
    unfold zz at h2
    split at h2
    ·split at h2
     ·cases h2;exact ⟨_,rfl⟩
     ·cases h2
    ·cases h2;exact ⟨_,rfl⟩
    ·cases h2
   obtain ⟨v,hv⟩:=hq
   rw [hv,Mz,if_neg (hn o (by simp))]
def hasB (s t:Nat):Bool:=Nat.beq (Nat.land (Nat.shiftRight s t) 1) 1
def G8 (s t:Nat):Nat:=Nat.lor s (Nat.shiftLeft 1 t)
def m4 (ks:List Nat) (L L0:SL):SL:=List.rec (motive:=fun _=>SL) L0 (fun t _ ih=>(t,lk L t)::ih) ks
theorem Ka (L L0:SL) (t:Nat):∀ ks,lk (m4 ks L L0) t=if t ∈ ks then lk L t else lk L0 t
 | []=>by simp [m4]
 |k::ks=>by
  show lk ((k,lk L k)::m4 ks L L0) t=_
  rw [kx,Ka L L0 t ks]
  by_cases e:k=t
  ·subst e;simp
  ·rw [if_neg e]
   simp only [List.mem_cons,Ne.symm e,false_or]
def ld (L:SL):Nat→SL:=List.rec (motive:=fun _=>Nat→SL) (fun _=>[]) (fun p _ ih s=>Bool.rec (motive:=fun _=>SL) (p::ih (G8 s p.1)) (ih s) (hasB s p.1)) L
theorem ag8 (s t u:Nat):hasB (G8 s t) u=(hasB s u || decide (t=u)):=by
 have key:∀ s u,hasB s u=s.testBit u:=by
  intro s u
  unfold hasB
  rw [Nat.testBit]
  show Nat.beq ((s >>> u) &&& 1) 1=_
  rw [Nat.and_comm]
  have : 1 &&& (s >>> u)<2:=Nat.lt_of_le_of_lt Nat.and_le_left (by omega)
  rcases (by omega : 1 &&& (s >>> u)=0∨1 &&& (s >>> u)=1) with h|h<;>rw [h]<;>rfl
 rw [key,key]
 show (s ||| (1 <<< t)).testBit u=_
 rw [Nat.testBit_or,Nat.shiftLeft_eq,Nat.one_mul,Nat.testBit_two_pow]
theorem Fk (t:Nat):∀ (L:SL) (s:Nat),lk (ld L s) t=bif hasB s t then .bad else lk L t
 | [],s=>by cases h:hasB s t<;>rfl
 |p::L,s=>by
  obtain ⟨k,v⟩:=p
  show lk (Bool.rec (motive:=fun _=>SL) ((k,v)::ld L (G8 s k)) (ld L s) (hasB s k)) t=_
  rw [kx]
  cases hk:hasB s k with
  |true=>
   show lk (ld L s) t=_
   rw [Fk t L s]
   by_cases e:k=t
   ·subst e;rw [hk];rfl
   ·rw [if_neg e]
  |false=>
   show lk ((k,v)::ld L (G8 s k)) t=_
   rw [kx,Fk t L,ag8]
   by_cases e:k=t
   ·subst e;rw [if_pos rfl,if_pos rfl,hk];rfl
   ·rw [if_neg e,if_neg e,decide_eq_false e,Bool.or_false]
def Oy (L' L:SL):Prop:=∀ t,lk L' t=lk L t∨lk L' t = .bad
theorem cx.less {g w nt L L' tmps} (h:cx g w nt L tmps) (hl:Oy L' L):cx g w nt L' tmps:=
 ⟨h.1,fun t=>by rcases hl t with e|e<;>rw [e];exact h.2 t;exact .bad _⟩
def j8 (ex:Nat) (L:SL):Prop:=∀ t,hasB ex t=false→lk L t = .bad
def kr (ex:Nat) (ops:Array Oper):List Nat:=(ops.toList.filterMap (·.dst)).filter (hasB ex)
theorem xg {ex:Nat} {ops:Array Oper} {L L0:SL} (hw:j8 ex L0) (hlk:∀ t,(∀ o ∈ ops.toList,o.dst≠some t)→lk L t=lk L0 t):Oy (m4 (kr ex ops) L L0) L∧j8 ex (m4 (kr ex ops) L L0):=by
 have hm:∀ t,t ∈ kr ex ops↔(∃ o ∈ ops.toList,o.dst=some t)∧hasB ex t=true:=by
  intro t;simp [kr,List.mem_filter,List.mem_filterMap]
 refine ⟨fun t=>?_,fun t ht=>?_⟩
 ·rw [Ka]
  by_cases h:t ∈ kr ex ops
  ·rw [if_pos h];exact .inl rfl
  ·rw [if_neg h]
   cases hx:hasB ex t with
   |false=>exact .inr (hw t hx)
   |true=>
    refine .inl (hlk t fun o ho e=>h ((hm t).2 ⟨⟨o,ho,e⟩,hx⟩)).symm
 ·rw [Ka,if_neg (fun h=>by have:=((hm t).1 h).2;rw [ht] at this;cases this)]
  exact hw t ht
def o0 {α:Type} (m:M α):M (α × List Nat × List Nat):=fun st=>
 match m { h:=st.h,nx:=st.nx,rl:=[],wl:=[] } with
 |some p=>some ((p.1,p.2.rl,p.2.wl),{ h:=p.2.h,nx:=p.2.nx,rl:=p.2.rl++st.rl,wl:=p.2.wl++st.wl })
 |none=>none
def m7 (P:Program) (look:eg) (ops:Array Oper) (l:List Oper):List Rec→SL→St→Option (List Rec × SL × St):=
 List.rec (motive:=fun _=>List Rec→SL→St→Option (List Rec × SL × St)) (fun recs L st=>some (recs,L,st)) (fun o _ ih recs L st=>
  match q9 ops L o with
  |some true=>
   match o0 ((jk P o).run look (bd o L)) st with
   |some p=>bif Nat.ble p.2.nx bo then ih (recs++[⟨p.1.2.1,p.1.2.2⟩]) (fc o.dst p.1.1 L) p.2 else none
   |none=>none
  |some false=>ih (recs++[⟨[],[]⟩]) (fc o.dst (.sc undef) L) st
  |none=>none) l
def Ib (o:Oper) (u:Nat):Bool:=o.op.operands.any fun x=>match x with|.tmp t=>Nat.beq t u|_=>false
def Lf (ops:Array Oper) (i:Nat) (o:Oper):Bool:=ops.toList.zipIdx.all fun r=>Nat.blt r.2 i || (match r.1.dst with|some d=>!(Ib o d)|none=>true)
def ain (p:Nat) (a:AV):Bool:=match a with|.mp q=>Nat.beq q p|_=>false
def H3 (P:Program) (ops:Array Oper) (L:SL) (p k0 i:Nat) (o:Oper):Option Lit:=
 match o.op,o.dst,o.guard with
 |.insert t m k x,none,none=>
  match P.underlying t with
  |some (.map kt _)=>
   match P.underlying kt,(bf L k).du with
   |some d,some key=>
    match ev P (Instr.checkKey false 10000 kt key) with
    |some _=>bif (ain p (bf L m) && ((Region.before ops).getD i 0).testBit k0) && Lf ops i o then some ⟨i,d,(key,bf L x)⟩ else none
    |none=>none
   |_,_=>none
  |_=>none
 |_,_,_=>none
def Ea (f:Nat→Oper→Option Lit):List Oper→Nat→Option (List Lit)
 | [],_=>some []
 |o::r,i=>
  bif p0 o then
   match f i o,Ea f r (i+1) with
   |some q,some l=>some (q::l)
   |_,_=>none
  else Ea f r (i+1)
def isFalse (b:Option Bool):Bool:=match b with|some false=>true|_=>false
def Tb (ops:Array Oper) (recs:List Rec) (p k0:Nat) (lits:List Lit):Bool:=
 (lits.all (fun q=>lits.all fun r=>Nat.beq q.i r.i || (lj q.e.1 r.e.1 && isFalse (Instr.sameNow q.d q.e.1 r.e.1))) && Nat.ble p bo) &&
 ((recs.zipIdx.all fun r=>Nat.beq r.2 k0 || (!(ub p r.1.R) && !(ub p r.1.W))) && (match ops[k0]? with|some o=>!(p0 o)|none=>false))
def Pj (p:Nat):List Rec→Nat→Option Nat
 | [],_=>none
 |a::r,i=>bif ub p a.W then some i else Pj p r (i+1)
def Fv (l:List Oper):Option Oper:=List.rec (motive:=fun _=>Option Oper) none (fun o _ ih=>bif p0 o then some o else ih) l
def af6 (p:Nat) (lits:List Lit) (x:aq):M Unit:=
 match x with
 |.map []=>fk p (.map (lits.map (·.e)))
 |_=>M.fail
def Ua (P:Program) (ops:Array Oper) (recs:List Rec) (L:SL) (p:Nat):M Unit:=
 match Pj p recs 0 with
 |some k0=>
  match Ea (H3 P ops L p k0) ops.toList 0 with
  |some lits=>bif Tb ops recs p k0 lits then (bp p).bind (af6 p lits) else M.fail
  |none=>M.fail
 |none=>M.fail
def my (P:Program) (ops:Array Oper) (recs:List Rec) (L:SL):M Unit:=
 match Fv ops.toList with
 |none=>M.pure ()
 |some o=>
  match o.op with
  |.insert _ m _ _=>
   match bf L m with
   |.mp p=>Ua P ops recs L p
   |_=>M.fail
  |_=>M.fail
def ae {α:Type} (m:M α):Prop:=
 ∀ st a au,ou st→m st=some (a,au) →
  st.nx≤au.nx∧∃ r w,au.rl=r++st.rl∧au.wl=w++st.wl∧(∀ o ∈ w,o<au.nx)∧(∀ o,st.nx≤o→o<au.nx→o ∈ w)∧(∀ o,o ∉ w→au.h.get o=st.h.get o) ∧
   ∀ h' rl' wl',(∀ o x,h'.get o=some x→o<st.nx)→(∀ o,o ∈ r∨o ∈ w→h'.get o=st.h.get o) →
    ∃ h1',m { h:=h',nx:=st.nx,rl:=rl',wl:=wl' }=some (a,{ h:=h1',nx:=au.nx,rl:=r++rl',wl:=w++wl' })∧∀ o,h1'.get o=if o ∈ w then au.h.get o else h'.get o
theorem ae.low {α:Type} {m:M α} (h:ae m) {st au a} (hl:ou st) (hm:m st=some (a,au)):ou au:=by
 obtain ⟨h1,r,w,_,_,h2,_,h3,_⟩:=h st a au hl hm
 intro o x hx
 by_cases ho:o ∈ w
 ·exact h2 o ho
 ·rw [h3 o ho] at hx;exact Nat.lt_of_lt_of_le (hl o x hx) h1
theorem ae.pure {α:Type} (a : α):ae (M.pure a):=fun st b au hl h=>by
 cases h
 exact ⟨Nat.le_refl _,[],[],rfl,rfl,(fun o ho=>by cases ho),(fun o h1 h2=>by omega),(fun _ _=>rfl),fun h' rl' wl' _ _=>⟨h',rfl,fun o=>by simp⟩⟩
theorem ae.fail {α:Type}:ae (M.fail:M α):=fun st b au _ h=>by cases h
theorem ae.of {α:Type} (a:Option α):ae (M.of a):=by cases a;exact ae.fail;exact ae.pure _
theorem ae.cond {α:Type} {b:Bool} {x y:M α} (hx:ae x) (hy:ae y):ae (bif b then x else y):=by cases b<;>assumption
theorem ae.bind {α β:Type} {m:M α} {f : α→M β} (hm:ae m) (hf:∀ x,ae (f x)):ae (m.bind f):=fun st b st2 hl h=>by
 obtain ⟨a,au,h1,h2⟩:=bind_some h
 have hl1:=hm.low hl h1
 obtain ⟨k1,r1,w1,k2,k3,k4,k5,k6,k7⟩:=hm st a au hl h1
 obtain ⟨q1,r2,w2,q2,q3,q4,q5,q6,q7⟩:=hf a au b st2 hl1 h2
 refine ⟨Nat.le_trans k1 q1,r2++r1,w2++w1,by rw [q2,k2,List.append_assoc],by rw [q3,k3,List.append_assoc],fun o ho=>?_,fun o h3 h4=>?_,fun o ho=>?_,fun h' rl' wl' hl' ha=>?_⟩
 ·rcases List.mem_append.1 ho with ho|ho
  ·exact q4 o ho
  ·exact Nat.lt_of_lt_of_le (k4 o ho) q1
 ·rcases Nat.lt_or_ge o au.nx with h5|h5
  ·exact List.mem_append.2 (.inr (k5 o h3 h5))
  ·exact List.mem_append.2 (.inl (q5 o h5 h4))
 ·rw [q6 o (fun h=>ho (List.mem_append.2 (.inl h))),k6 o (fun h=>ho (List.mem_append.2 (.inr h)))]
 ·obtain ⟨h1',e1,e2⟩:=k7 h' rl' wl' hl' (fun o ho=>ha o (ho.imp (fun h=>List.mem_append.2 (.inr h)) (fun h=>List.mem_append.2 (.inr h))))
  have hlo1:∀ o x,h1'.get o=some x→o<au.nx:=fun o x hx=>by
   rw [e2] at hx
   by_cases ho:o ∈ w1
   ·exact k4 o ho
   ·rw [if_neg ho] at hx;exact Nat.lt_of_lt_of_le (hl' o x hx) k1
  obtain ⟨h2',e3,e4⟩:=q7 h1' (r1++rl') (w1++wl') hlo1 (fun o ho=>by
   rw [e2]
   by_cases hw:o ∈ w1
   ·rw [if_pos hw]
   ·rw [if_neg hw,k6 o hw]
    exact ha o (ho.imp (fun h=>List.mem_append.2 (.inl h)) (fun h=>List.mem_append.2 (.inl h))))
  refine ⟨h2',?_,fun o=>?_⟩
  ·show M.bind m f _=_
   unfold M.bind
   rw [e1]
   simp only
   rw [e3,List.append_assoc,List.append_assoc]
  ·rw [e4]
   by_cases h5:o ∈ w2
   ·rw [if_pos h5,if_pos (List.mem_append.2 (.inl h5))]
   ·rw [if_neg h5,e2]
    by_cases h6:o ∈ w1
    ·rw [if_pos h6,if_pos (List.mem_append.2 (.inr h6)),q6 o h5]
    ·rw [if_neg h6,if_neg (fun h=>by rcases List.mem_append.1 h with h|h;exact h5 h;exact h6 h)]
theorem ae.mono {α:Type} {m:M α} (h:ae m):ae (Vm.mono m):=fun st a au hl hm=>by
 obtain ⟨h1,h2⟩:=uh hm
 obtain ⟨k1,r,w,k2,k3,k4,k5,k6,k7⟩:=h st a au hl h1
 refine ⟨k1,r,w,k2,k3,k4,k5,k6,fun h' rl' wl' hl' ha=>?_⟩
 obtain ⟨h1',e1,e2⟩:=k7 h' rl' wl' hl' ha
 refine ⟨h1',?_,e2⟩
 unfold Vm.mono
 rw [e1]
 simp only
 rw [show Nat.ble st.nx au.nx=true from Nat.ble_eq_true_of_le k1]
 rfl
theorem ae.bp (id:Nat):ae (Vm.bp id):=fun st a au hl h=>by
 unfold Vm.bp at h
 cases hx:st.h.get id with
 |none=>rw [hx] at h;cases h
 |some x=>
  rw [hx] at h
  cases h
  refine ⟨Nat.le_refl _,[id],[],rfl,rfl,(fun o ho=>by cases ho),(fun o h1 h2=>by simp at h2;omega),(fun _ _=>rfl),fun h' rl' wl' _ ha=>⟨h',?_,fun o=>by simp⟩⟩
  unfold Vm.bp
  simp only [ha id (.inl (by simp)),hx]
  rfl
theorem ae.fk (id:Nat) (x:aq):ae (Vm.fk id x):=fun st a au hl h=>by
 unfold Vm.fk at h
 cases hx:st.h.get id with
 |none=>rw [hx] at h;cases h
 |some y=>
  rw [hx] at h
  cases hb:Nat.ble id bo with
  |false=>rw [hb] at h;cases h
  |true=>
   rw [hb] at h
   cases h
   have hlt:=Nat.le_of_ble_eq_true hb
   refine ⟨Nat.le_refl _,[],[id],rfl,rfl,(fun o ho=>by simp at ho;subst ho;exact hl _ y hx),(fun o h1 h2=>by simp at h2;omega),(fun o ho=>by simp at ho;simp only;rw [dj _ _ _ _ hlt,if_neg ho]),fun h' rl' wl' _ ha=>⟨h'.set depth id (some x),?_,fun o=>?_⟩⟩
   ·unfold Vm.fk
    simp only [ha id (.inr (by simp)),hx,hb,cond_true]
    rfl
   ·simp only [dj _ _ _ _ hlt,List.mem_singleton]
    by_cases e:o=id
    ·rw [if_pos e,if_pos e,if_pos e]
    ·rw [if_neg e,if_neg e]
theorem ae.qx (id:Nat):ae (Vm.qx id):=fun st a au hl h=>by
 unfold Vm.qx at h
 cases hx:st.h.get id with
 |none=>rw [hx] at h;cases h
 |some y=>
  rw [hx] at h
  cases hb:Nat.ble id bo with
  |false=>rw [hb] at h;cases h
  |true=>
   rw [hb] at h
   cases h
   have hlt:=Nat.le_of_ble_eq_true hb
   refine ⟨Nat.le_refl _,[],[id],rfl,rfl,(fun o ho=>by simp at ho;subst ho;exact hl _ y hx),(fun o h1 h2=>by simp at h2;omega),(fun o ho=>by simp at ho;simp only;rw [dj _ _ _ _ hlt,if_neg ho]),fun h' rl' wl' _ ha=>⟨h'.set depth id none,?_,fun o=>?_⟩⟩
   ·unfold Vm.qx
    simp only [ha id (.inr (by simp)),hx,hb,cond_true]
    rfl
   ·simp only [dj _ _ _ _ hlt,List.mem_singleton]
    by_cases e:o=id
    ·rw [if_pos e,if_pos e,if_pos e]
    ·rw [if_neg e,if_neg e]
theorem ae.eu (x:aq):ae (Vm.eu x):=fun st a au hl h=>by
 unfold Vm.eu at h
 cases hb:Nat.ble st.nx bo with
 |false=>rw [hb] at h;cases h
 |true=>
  rw [hb] at h
  cases h
  have hlt:=Nat.le_of_ble_eq_true hb
  refine ⟨Nat.le_succ _,[],[st.nx],rfl,rfl,(fun o ho=>by simp at ho;subst ho;exact Nat.lt_succ_self _),(fun o h1 h2=>by simp at h2 ⊢;omega),(fun o ho=>by simp at ho;simp only;rw [dj _ _ _ _ hlt,if_neg ho]),fun h' rl' wl' _ ha=>⟨h'.set depth st.nx (some x),?_,fun o=>?_⟩⟩
  ·unfold Vm.eu
   simp only [hb,cond_true]
   rfl
  ·simp only [dj _ _ _ _ hlt,List.mem_singleton]
   by_cases e:o=st.nx
   ·rw [if_pos e,if_pos e,if_pos e]
   ·rw [if_neg e,if_neg e]
theorem ae.o0 {α:Type} {m:M α} (h:ae m):ae (Vm.o0 m):=fun st a au hl hm=>by
 unfold Vm.o0 at hm
 cases h1:m { h:=st.h,nx:=st.nx,rl:=[],wl:=[] } with
 |none=>rw [h1] at hm;cases hm
 |some p=>
  rw [h1] at hm
  cases hm
  obtain ⟨k1,r,w,k2,k3,k4,k5,k6,k7⟩:=h { h:=st.h,nx:=st.nx,rl:=[],wl:=[] } p.1 p.2 hl h1
  rw [List.append_nil] at k2 k3
  refine ⟨k1,r,w,by simp only [k2],by simp only [k3],k4,k5,k6,fun h' rl' wl' hl' ha=>?_⟩
  obtain ⟨h1',e1,e2⟩:=k7 h' [] [] hl' ha
  refine ⟨h1',?_,e2⟩
  unfold Vm.o0
  simp only at e1 ⊢
  rw [e1]
  simp only [List.append_nil,k2,k3]
theorem ae.cellsIn (sz:Nat) (v:AV):ae (Vm.cellsIn sz v):=by
 unfold Vm.cellsIn ud
 repeat' (first|exact ae.pure _|exact ae.fail|exact ae.bp _|apply ae.cond|(refine ae.bind ?_ fun x=>?_)|split)
theorem ae.vh {P:Program} {ρ:Operand→AV} {o:Oper} {l:List Operand}:ae (fg P ρ o l):=by unfold fg;exact ae.cond (ae.of _) ae.fail
theorem ae.bx {t:TypeId} {x:AV}:ae (tr t x):=by
 unfold tr
 repeat' (first|exact ae.pure _|exact ae.fail|exact ae.eu _|apply ae.cond|(refine ae.bind ?_ fun x=>?_)|split)
theorem ad5 {P:Program} {o:Oper} {ρ:Operand→AV}:ae (x7 P o ρ):=by
 unfold x7
 cases ho:o.op with
 |move x=>exact ae.pure _
 |assign x=>exact ae.pure _
 |load t a=>
  show ae (gi P t (ρ a))
  unfold gi su
  repeat' (first|exact ae.pure _|exact ae.fail|exact ae.of _|exact ae.bp _|(refine ae.bind ?_ fun x=>?_)|split)
 |fieldAddr s x f=>
  show ae (i4 P s (ρ x) f)
  unfold i4
  repeat' (first|exact ae.pure _|exact ae.fail|exact ae.of _|apply ae.cond|split)
 |binOp op t x y u=>
  show ae (tp P ρ o op t x y)
  have he:∀ a b,ae (jc P ρ o op t a b):=fun a b=>by
   unfold jc vg y8 zj S8 Td Na Fu kc
   repeat' (first|exact ae.pure _|exact ae.fail|exact ae.of _|exact ae.bp _|apply ae.cond|(refine ae.bind ?_ fun x=>?_)|split)
  unfold tp zi G7
  repeat' (first|exact he _ _|exact ae.pure _|exact ae.fail|exact ae.of _|apply ae.cond|split)
 |pick c a b=>
  show ae (qg (ρ c) (ρ a) (ρ b))
  unfold qg
  repeat' (first|exact ae.pure _|exact ae.fail|split)
 |store t a x=>
  show ae (mo P t (ρ a) (ρ x))
  unfold mo sb
  repeat' (first|exact ae.pure _|exact ae.fail|exact ae.bp _|exact ae.fk _ _|apply ae.cond|(refine ae.bind ?_ fun x=>?_)|split)
 |mapUpdate t m k x=>
  show ae (ji P t (ρ m) (ρ k) (ρ x))
  unfold ji m9
  repeat' (first|exact ae.pure _|exact ae.fail|exact ae.bp _|exact ae.fk _ _|apply ae.cond|(refine ae.bind ?_ fun x=>?_)|split)
 |insert t m k x=>
  show ae (ji P t (ρ m) (ρ k) (ρ x))
  unfold ji m9
  repeat' (first|exact ae.pure _|exact ae.fail|exact ae.bp _|exact ae.fk _ _|apply ae.cond|(refine ae.bind ?_ fun x=>?_)|split)
 |extract t ix=>
  show ae (l0 (ρ t) ix)
  unfold l0
  repeat' (first|exact ae.pure _|exact ae.fail|exact ae.of _|split)
 |indexAddr t x ix=>
  show ae (i7 P t (ρ x) (ρ ix))
  unfold i7 qp
  repeat' (first|exact ae.pure _|exact ae.fail|exact ae.of _|apply ae.cond|split)
 |nilCheck x=>
  show ae (jx (ρ x))
  unfold jx
  repeat' (first|exact ae.pure _|exact ae.fail|split)
 |alloc t=>
  show ae (n7 P t)
  unfold n7
  split
  ·exact ae.fail
  ·exact ae.bx
 |box t x=>exact ae.bx
 |build t ps=>
  show ae (nh P t _)
  unfold nh
  repeat' (first|exact ae.pure _|exact ae.fail|exact ae.of _|split)
 |buildSlice t len ps=>
  show ae (gh P t len _)
  unfold gh jj
  repeat' (first|exact ae.eu _|exact ae.pure _|exact ae.fail|exact ae.of _|apply ae.cond|(refine ae.bind ?_ fun x=>?_)|split)
 |makeSlice t l c=>
  show ae (nd P t (ρ l) (ρ c))
  unfold nd jj
  repeat' (first|exact ae.eu _|exact ae.pure _|exact ae.fail|exact ae.of _|apply ae.cond|(refine ae.bind ?_ fun x=>?_)|split)
 |makeMap t r=>
  show ae (po r)
  unfold po
  repeat' (first|exact ae.eu _|exact ae.pure _|exact ae.fail|(refine ae.bind ?_ fun x=>?_)|split)
 |makeFunc f a b=>exact ae.pure _
 |convert src dst x=>
  show ae (l6 P ρ o src dst (ρ x))
  have he:ae (ot P ρ o (ρ x)):=by unfold ot;split;exact ae.of _;exact ae.fail
  unfold l6 iy
  repeat' (first|exact he|exact ae.fail|split)
  ·unfold z5;repeat' (first|exact ae.eu _|exact ae.pure _|exact ae.fail|apply ae.cond|(refine ae.bind ?_ fun x=>?_)|split)
  ·unfold C3 wh;repeat' (first|exact ae.cellsIn _ _|exact ae.pure _|exact ae.fail|apply ae.cond|(refine ae.bind ?_ fun x=>?_)|split)
  ·unfold C0 z3;repeat' (first|exact ae.bp _|exact ae.pure _|exact ae.fail|apply ae.cond|(refine ae.bind ?_ fun x=>?_)|split)
  ·unfold Dc Aj;repeat' (first|exact ae.bp _|exact ae.pure _|exact ae.fail|apply ae.cond|(refine ae.bind ?_ fun x=>?_)|split)
  ·unfold zd;repeat' (first|exact ae.pure _|exact ae.fail|split)
 |makeInterface t x=>
  show ae (jn P t (ρ x))
  unfold jn
  repeat' (first|exact ae.pure _|exact ae.fail|split)
 |field s x f=>
  show ae (pf P s (ρ x) f)
  unfold pf
  repeat' (first|exact ae.pure _|exact ae.fail|exact ae.of _|split)
 |index t x ix=>
  show ae (pk P ρ o t x ix)
  unfold pk
  repeat' (first|exact ae.vh|exact ae.pure _|exact ae.fail|exact ae.of _|apply ae.cond|split)
 |slice t x lo hi mx=>
  show ae (n9 P ρ o t x lo hi mx)
  unfold n9 Ke
  repeat' (first|exact ae.vh|exact ae.bp _|exact ae.pure _|exact ae.fail|exact ae.of _|apply ae.cond|(refine ae.bind ?_ fun x=>?_)|split)
 |lookup t x ix ok=>
  show ae (nl P t (ρ x) (ρ ix) ok)
  unfold nl oh found
  repeat' (first|exact ae.bp _|exact ae.pure _|exact ae.fail|exact ae.of _|apply ae.cond|(refine ae.bind ?_ fun x=>?_)|split)
 |typeAssert x t a ok=>
  show ae (mc P ρ o (ρ x) a ok)
  unfold mc
  repeat' (first|exact ae.pure _|exact ae.fail|exact ae.of _|apply ae.cond|split)
 |unOp op t x=>exact ae.vh
 |call c=>
  obtain ⟨callee,args,ts⟩:=c
  cases callee with
  |value f=>exact ae.fail
  |invoke r m=>exact ae.fail
  |builtin b=>
   show ae (pq P ρ o b args.toList ts)
   unfold pq
   split<;>first|exact ae.fail|exact ae.vh|skip
   ·unfold oa Xi
    repeat' (first|exact ae.bp _|exact ae.pure _|exact ae.fail|(refine ae.bind ?_ fun x=>?_)|split)
   ·have ha:∀ e sz bytes s new,ae (ln e sz bytes s new):=fun e sz bytes s new=>by
     unfold ln uo jj
     repeat' (first|exact ae.bp _|exact ae.eu _|exact ae.qx _|exact ae.pure _|exact ae.fail|apply ae.cond|(refine ae.bind ?_ fun x=>?_)|split)
    unfold ki
    repeat' (first|exact ha _ _ _ _ _|exact ae.cellsIn _ _|exact ae.pure _|exact ae.fail|apply ae.cond|(refine ae.bind ?_ fun x=>?_)|split)
   ·unfold Db H5
    repeat' (first|exact ae.bp _|exact ae.fk _ _|exact ae.cellsIn _ _|exact ae.pure _|exact ae.fail|apply ae.cond|(refine ae.bind ?_ fun x=>?_)|split)
   ·unfold we x6
    repeat' (first|exact ae.bp _|exact ae.fk _ _|exact ae.pure _|exact ae.fail|apply ae.cond|(refine ae.bind ?_ fun x=>?_)|split)
   ·unfold xj
    repeat' (first|exact ae.pure _|exact ae.fail|split)
   ·unfold i6
    repeat' (first|exact ae.pure _|exact ae.fail|apply ae.cond|split)
   ·unfold ft sj
    repeat' (first|exact ae.bp _|exact ae.fk _ _|exact ae.pure _|exact ae.fail|apply ae.cond|(refine ae.bind ?_ fun x=>?_)|split)
 |_=>exact ae.fail
def g7 (look:eg):Prop:=∀ f p,look f=some p→∀ args,ae (p.2 args)
theorem ve {P:Program} {look:eg} {o:Oper} {ρ:Operand→AV} (h:ae (Ax P look o ρ)):ae ((jk P o).run look ρ):=by rw [Eb];exact h
theorem u2 {P:Program} {look:eg} (hl:g7 look) {o:Oper} {ρ:Operand→AV}:ae (Ax P look o ρ):=by
 have hcall:∀ g args,ae (Nd look g args):=by
  intro g args
  unfold Nd
  refine ae.cond ?_ ae.fail
  split
  ·rename_i p hp;exact (hl g p hp args).mono
  ·exact ae.fail
 have hfn:∀ g args,ae (zk look g args):=by
  intro g args
  unfold zk
  split
  ·exact hcall _ _
  ·exact ae.fail
 unfold Ax
 split
 ·unfold Gw
  split
  ·exact hfn _ _
  ·split
   ·exact hfn _ _
   ·exact ae.fail
  ·exact ae.fail
 ·exact ad5.mono
theorem ae.congr {α:Type} {m m':M α} (h:ae m) (e:∀ st,m' st=m st):ae m':=by
 rw [show m'=m from funext e];exact h
theorem Ai {P:Program} {look:eg} (hl:g7 look) (ops:Array Oper) (o:Oper) (L:SL):ae (α:=SL) ((vr P ops o).run look L):=by
 cases hg:tx ops L o with
 |none=>exact ae.fail.congr (fun st=>by rw [D2];unfold zz;rw [hg];rfl)
 |some b=>
  cases b with
  |false=>exact (ae.pure (fc o.dst (.sc undef) L)).congr (fun st=>by rw [D2];unfold zz;rw [hg];rfl)
  |true=>
   refine (ae.bind (ve (u2 (P:=P) hl (o:=o) (ρ:=bf L))) (fun v=>ae.pure (fc o.dst v L))).congr (fun st=>?_)
   rw [D2]
   show zz P look ops o L st=M.bind _ _ st
   unfold zz M.bind
   rw [hg]
   simp only
   cases (jk P o).run look (bf L) st<;>rfl
theorem E2 {P:Program} {look:eg} (hl:g7 look) (ops:Array Oper):∀ (l:List Oper) (L:SL),ae (α:=SL) ((pd P ops l).run look L):=by
 intro l
 induction l with
 |nil=>intro L;exact ae.pure L
 |cons o l ih=>
  intro L
  refine (ae.bind (Ai (P:=P) hl ops o L) (fun L'=>ih L')).congr (fun st=>?_)
  rw [B9]
  unfold M.bind
  cases (vr P ops o).run look L st<;>rfl
theorem adr {P:Program} {look:eg} (hT:ll P (pc look)) (hl:g7 look) {ops:Array Oper} {ro:Option Nat} {N:Nat} {B:ee} {nt:Nat} {Q:Exit→Act→World→Prop} (hg:mq nt ops=true) (hd:qf nt ops=true) {p:SL × St}
 (rest:List Nat) (hK:∀ g w (a:Act),dz B g p.2 w→cx g w nt p.1 a.tmps→Marks B.n0 p.2.h g w a.defers→wpOpsIn (ed ro) N P ops Q rest a w) :
 ∀ (l:List Oper) (is:List Nat),(∀ o ∈ l,o ∈ ops)→is.map (fun i=>ops[i]?)=l.map some→∀ L st g w a,(pd P ops l).run look L st=some p→ou st→B.qw st.nx p.2.nx→dz B g st w→cx g w nt L a.tmps→Marks B.n0 st.h g w a.defers→wpOpsIn (ed ro) N P ops Q (is++rest) a w:=by
 intro l
 induction l with
 |nil=>
  intro is _ his L st g w a h hlo hn hc hr hdf
  cases is with
  |nil=>cases h;exact hK g w a hc hr hdf
  |cons i is=>cases his
 |cons o l ih=>
  intro is hmem his L st g w a h hlo hn hc hr hdf
  cases is with
  |nil=>cases his
  |cons i is=>
   simp only [List.map_cons,List.cons.injEq] at his
   obtain ⟨hi,his⟩:=his
   have ho:=hmem o (by simp)
   rw [B9] at h
   cases h1:(vr P ops o).run look L st with
   |none=>rw [h1] at h;cases h
   |some q=>
   have hlo':ou q.2:=(Ai (P:=P) hl ops o L).low hlo h1
   have hle1:st.nx≤q.2.nx:=(Ai hl ops o L st q.1 q.2 hlo h1).1
   rw [h1] at h
   simp only at h
   have hle2:q.2.nx≤p.2.nx:=(E2 hl ops l q.1 q.2 p.1 p.2 hlo' h).1
   have h2:=Uc h1
   unfold zz at h2
   simp only [List.cons_append,wpOpsIn,hi]
   cases hb:tx ops L o with
   |none=>rw [hb] at h2;cases h2
   |some b=>
   rw [hb] at h2
   have hw:Region.wanted o (yielded ops a.tmps)=b:=Ec hr.1 (Aa hg ho) (fun j c _=>hr.2 _) hb
   rw [hw]
   cases b with
   |true=>
    rw [if_pos rfl]
    simp only at h2
    rw [Eb,Kx] at h2
    cases hop:dh P (pc look) o (bf L) st with
    |none=>rw [hop] at h2;cases h2
    |some r=>
     obtain ⟨v,st'⟩:=r
     rw [hop] at h2
     cases h2
     refine An hT hc.ok (hc.free (hn.sub (Nat.le_refl _) hle2)) hlo hr.eval hop ro N _ _ ?_
     rintro u w' ⟨g',q1,q2,q3⟩
     exact ih is (fun o ho=>hmem o (by simp [ho])) his _ st' g' w' _ h hlo' (hn.sub hle1 (Nat.le_refl _)) (hc.step (hn.sub (Nat.le_refl _) hle2) ⟨tv hop,q1⟩ q2) ((hr.ext q1.ext).put q3 (ql hd ho)) (by rw [put_defers];exact hdf.step q1)
   |false=>
    simp only at h2
    cases h2
    rw [if_neg (by simp)]
    refine ⟨jt ro P o a w,?_⟩
    exact ih is (fun o ho=>hmem o (by simp [ho])) his _ st g w _ h hlo hn hc (hr.put (.sc _) (ql hd ho)) (by rw [put_defers];exact hdf)
theorem aga {P:Program} {look:eg} (hT:ll P (pc look)) (hl:g7 look) {ops:Array Oper} {ro:Option Nat} {N:Nat} {B:ee} {nt:Nat} {Q:Exit→Act→World→Prop} (hg:mq nt ops=true) (hd:qf nt ops=true) {p:SL × St}
 (hK:∀ g w (a:Act),dz B g p.2 w→cx g w nt p.1 a.tmps→Marks B.n0 p.2.h g w a.defers→Q .normal a w) :
 ∀ (l:List Oper) (is:List Nat),(∀ o ∈ l,o ∈ ops)→is.map (fun i=>ops[i]?)=l.map some→∀ L st g w a,(pd P ops l).run look L st=some p→ou st→B.qw st.nx p.2.nx→dz B g st w→cx g w nt L a.tmps→Marks B.n0 st.h g w a.defers→wpOpsIn (ed ro) N P ops Q is a w:=by
 intro l is h1 h2 L st g w a h3 h4 h5 h6 h7 h8
 rw [show is=is++[] from (List.append_nil is).symm]
 exact adr hT hl hg hd [] (fun g w a h1 h2 h3=>hK g w a h1 h2 h3) l is h1 h2 L st g w a h3 h4 h5 h6 h7 h8
def jg {α β:Type} (X:St→Option (α × β × St)):M (α × β):=fun st=>
 match X st with
 |some q=>some ((q.1,q.2.1),q.2.2)
 |none=>none
theorem xa {α β:Type} {X:St→Option (α × β × St)} {st:St} {q : α × β × St} (h:X st=some q):jg X st=some ((q.1,q.2.1),q.2.2):=by unfold jg;rw [h]
def ze {α:Type} (m:M α):M α:=fun st=>bif Nat.ble st.nx bo then m st else none
theorem ae.ze {α:Type} {m:M α} (h:ae m):ae (Vm.ze m):=fun st a au hl hm=>by
 unfold Vm.ze at hm
 cases hb:Nat.ble st.nx bo with
 |false=>rw [hb] at hm;cases hm
 |true=>
  rw [hb] at hm
  obtain ⟨k1,r,w,k2,k3,k4,k5,k6,k7⟩:=h st a au hl hm
  refine ⟨k1,r,w,k2,k3,k4,k5,k6,fun h' rl' wl' hl' ha=>?_⟩
  obtain ⟨h1',e1,e2⟩:=k7 h' rl' wl' hl' ha
  exact ⟨h1',by unfold Vm.ze;simp only [hb,cond_true];exact e1,e2⟩
theorem Gi {P:Program} {look:eg} (hl:g7 look) (ops:Array Oper):∀ (l:List Oper) (recs:List Rec) (L:SL),ae (jg (m7 P look ops l recs L)):=by
 intro l
 induction l with
 |nil=>intro recs L;exact ae.pure (recs,L)
 |cons o l ih=>
  intro recs L
  have e:∀ st,m7 P look ops (o::l) recs L st=(match q9 ops L o with
   |some true=>
    match o0 ((jk P o).run look (bd o L)) st with
    |some p=>bif Nat.ble p.2.nx bo then m7 P look ops l (recs++[⟨p.1.2.1,p.1.2.2⟩]) (fc o.dst p.1.1 L) p.2 else none
    |none=>none
   |some false=>m7 P look ops l (recs++[⟨[],[]⟩]) (fc o.dst (.sc undef) L) st
   |none=>none):=fun st=>rfl
  cases hg:q9 ops L o with
  |none=>exact ae.fail.congr (fun st=>by unfold jg;rw [e,hg];rfl)
  |some b=>
   cases b with
   |false=>exact (ih (recs++[⟨[],[]⟩]) (fc o.dst (.sc undef) L)).congr (fun st=>by unfold jg;rw [e,hg])
   |true=>
    refine (ae.bind (ve (u2 (P:=P) hl (o:=o) (ρ:=bd o L))).o0 (fun p=>(ih (recs++[⟨p.2.1,p.2.2⟩]) (fc o.dst p.1 L)).ze)).congr (fun st=>?_)
    unfold jg M.bind
    rw [e,hg]
    simp only
    cases o0 ((jk P o).run look (bd o L)) st with
    |none=>rfl
    |some p=>
     simp only [ze]
     cases Nat.ble p.2.nx bo<;>rfl
theorem aij {P:Program} {look:eg} {ops:Array Oper} {t:Nat}:∀ (l:List Oper) (recs:List Rec) (L:SL) (st:St) (r:List Rec × SL × St),m7 P look ops l recs L st=some r→(∀ o ∈ l,o.dst≠some t)→lk r.2.1 t=lk L t:=by
 intro l
 induction l with
 |nil=>intro recs L st r h _;cases h;rfl
 |cons o l ih=>
  intro recs L st r h hn
  change (match q9 ops L o with
   |some true=>
    match o0 ((jk P o).run look (bd o L)) st with
    |some p=>bif Nat.ble p.2.nx bo then m7 P look ops l (recs++[⟨p.1.2.1,p.1.2.2⟩]) (fc o.dst p.1.1 L) p.2 else none
    |none=>none
   |some false=>m7 P look ops l (recs++[⟨[],[]⟩]) (fc o.dst (.sc undef) L) st
   |none=>none)=some r at h
  have step:∀ v recs au,m7 P look ops l recs (fc o.dst v L) au=some r→lk r.2.1 t=lk L t:=by
   intro v recs au h'
   rw [ih _ _ _ r h' (fun o ho=>hn o (by simp [ho])),Mz,if_neg (hn o (by simp))]
  split at h
  ·split at h
   ·rename_i p _
    cases hb:Nat.ble p.2.nx bo with
    |true=>rw [hb] at h;exact step _ _ _ h
    |false=>rw [hb] at h;cases h
   ·cases h
  ·exact step _ _ _ h
  ·cases h
theorem aei {a b a' b':List Nat} (h:ju a b=true) (ha:∀ o ∈ a',o ∈ a) (hb:∀ o ∈ b',o ∈ b):ju a' b'=true:=
 (yw _ _).2 fun o h1 h2=>sa h (ha o h1) (hb o h2)
def th (a a':Rec):Prop:=(∀ o ∈ a'.W,o ∈ a.W)∧∀ o ∈ a'.R,o ∈ a.R∨o ∈ a.W
theorem afo {a b c x y:List Nat} (h1:ju a b=true) (h2:ju a c=true) (hx:∀ o ∈ x,o ∈ a) (hy:∀ o ∈ y,o ∈ b∨o ∈ c):ju x y=true:=
 (yw _ _).2 fun o k1 k2=>(hy o k2).elim (sa h1 (hx o k1)) (sa h2 (hx o k1))
theorem abt {a b c x y:List Nat} (h1:ju b a=true) (h2:ju c a=true) (hx:∀ o ∈ x,o ∈ b∨o ∈ c) (hy:∀ o ∈ y,o ∈ a):ju x y=true:=
 (yw _ _).2 fun o k1 k2=>(hx o k1).elim (fun h=>sa h1 h (hy o k2)) (fun h=>sa h2 h (hy o k2))
theorem Wh {before:Array Nat} {i j:Nat} {a b a' b':Rec} (ha:th a a') (hb:th b b') (h:rn before i j a b=true):rn before i j a' b'=true:=by
 unfold rn at h ⊢
 simp only [Bool.or_eq_true,Bool.and_eq_true] at h ⊢
 rcases h with ⟨⟨h1,h2⟩,h3⟩|h
 ·exact .inl ⟨⟨afo h1 h2 ha.1 hb.2,aei h2 ha.1 hb.1⟩,abt h3 h2 ha.2 hb.1⟩
 ·exact .inr h
theorem Js {before:Array Nat} {i:Nat} {a a':Rec} (ha:th a a'):∀ (l l':List Rec) (j:Nat),l.length=l'.length→(∀ (k:Nat) x y,l[k]? = some x→l'[k]? = some y→th x y)→wc before i a j l=true→wc before i a' j l'=true
 | [],[],_,_,_,_=>rfl
 | [],_::_,_,h,_,_=>by simp at h
 |_::_,[],_,h,_,_=>by simp at h
 |x::l,y::l',j,hl,hs,h=>by
  simp only [wc,Bool.and_eq_true] at h ⊢
  exact ⟨Wh ha (hs 0 x y rfl rfl) h.1,Js ha l l' (j+1) (by simpa using hl) (fun k u v hu hv=>hs (k+1) u v (by simpa using hu) (by simpa using hv)) h.2⟩
theorem Iz {before:Array Nat}:∀ (l l':List Rec) (j:Nat),l.length=l'.length→(∀ (k:Nat) x y,l[k]? = some x→l'[k]? = some y→th x y)→cy before j l=true→cy before j l'=true
 | [],[],_,_,_,_=>rfl
 | [],_::_,_,h,_,_=>by simp at h
 |_::_,[],_,h,_,_=>by simp at h
 |x::l,y::l',j,hl,hs,h=>by
  simp only [cy,Bool.and_eq_true] at h ⊢
  exact ⟨Js (hs 0 x y rfl rfl) l l' (j+1) (by simpa using hl) (fun k u v hu hv=>hs (k+1) u v (by simpa using hu) (by simpa using hv)) h.1,Iz l l' (j+1) (by simpa using hl) (fun k u v hu hv=>hs (k+1) u v (by simpa using hu) (by simpa using hv)) h.2⟩
theorem ajq {P:Program} {look:eg} (hl:g7 look) {ops:Array Oper} {E:List Rec→Prop} {K:SL→St→Prop}:∀ (l:List Oper) (recs recs':List Rec) (L:SL) (st st':St) (r:List Rec × SL × St),m7 P look ops l recs L st=some r→ou st→(∀ o,st'.h.get o=st.h.get o)→st'.nx=st.nx →
 recs.length=recs'.length→(∀ (k:Nat) x y,recs[k]? = some x→recs'[k]? = some y→th x y)→(∀ l',r.1.length=l'.length→(∀ (k:Nat) x y,r.1[k]? = some x→l'[k]? = some y→th x y)→E l')→(∀ st2,(∀ o,st2.h.get o=r.2.2.h.get o)→st2.nx=r.2.2.nx→K r.2.1 st2) →
 aca P (pc look) ops E l K recs' L st':=by
 intro l
 induction l with
 |nil=>
  intro recs recs' L st st' r h hlo hh hnx hlen hsub hc hk
  cases h
  exact ⟨hc _ hlen hsub,hk st' hh hnx⟩
 |cons o l ih=>
  intro recs recs' L st st' r h hlo hh hnx hlen hsub hc hk
  change (match q9 ops L o with
   |some true=>
    match o0 ((jk P o).run look (bd o L)) st with
    |some p=>bif Nat.ble p.2.nx bo then m7 P look ops l (recs++[⟨p.1.2.1,p.1.2.2⟩]) (fc o.dst p.1.1 L) p.2 else none
    |none=>none
   |some false=>m7 P look ops l (recs++[⟨[],[]⟩]) (fc o.dst (.sc undef) L) st
   |none=>none)=some r at h
  have hsnoc:∀ (a a':Rec),th a a'→∀ (k:Nat) x y,(recs++[a])[k]? = some x→(recs'++[a'])[k]? = some y→th x y:=by
   intro a a' ha k x y hx hy
   rcases Nat.lt_trichotomy k recs.length with hk'|hk'|hk'
   ·rw [List.getElem?_append_left hk'] at hx
    rw [List.getElem?_append_left (by omega)] at hy
    exact hsub k x y hx hy
   ·subst hk'
    rw [List.getElem?_append_right (Nat.le_refl _),Nat.sub_self] at hx
    rw [List.getElem?_append_right (by omega),hlen,Nat.sub_self] at hy
    cases hx;cases hy
    exact ha
   ·rw [List.getElem?_eq_none (by simp;omega)] at hx;cases hx
  cases hb:q9 ops L o with
  |none=>rw [hb] at h;cases h
  |some b=>
   rw [hb] at h
   cases b with
   |true=>
    refine .inl ⟨hb,?_⟩
    simp only at h
    cases h1:o0 ((jk P o).run look (bd o L)) st with
    |none=>rw [h1] at h;cases h
    |some p=>
    rw [h1] at h
    simp only at h
    rw [Eb] at h1
    have hfr:=(u2 (P:=P) hl (o:=o) (ρ:=bd o L))
    have hlo1:ou p.2:=hfr.o0.low hlo h1
    unfold o0 at h1
    cases h2:Ax P look o (bd o L) { h:=st.h,nx:=st.nx,rl:=[],wl:=[] } with
    |none=>rw [h2] at h1;cases h1
    |some q=>
    rw [h2] at h1
    cases h1
    obtain ⟨v,au⟩:=q
    simp only at h
    cases hlim:Nat.ble au.nx bo with
    |false=>rw [hlim] at h;cases h
    |true=>
    rw [hlim,cond_true] at h
    have hlim:=Nat.le_of_ble_eq_true hlim
    obtain ⟨k1,rr,ww,k2,k3,k4,k5,k6,k7⟩:=hfr { h:=st.h,nx:=st.nx,rl:=[],wl:=[] } v au hlo h2
    rw [List.append_nil] at k2 k3
    simp only at k1 k5 k6 k7
    obtain ⟨F,hF⟩:∃ F,F=(rr++ww).filter (fun o=>decide (o<st.nx)):=⟨_,rfl⟩
    obtain ⟨W,hW⟩:∃ W,W=ww.filter (fun o=>decide (o<st.nx)):=⟨_,rfl⟩
    have mF:∀ o,o ∈ F↔(o ∈ rr∨o ∈ ww)∧o<st.nx:=fun o=>by rw [hF,List.mem_filter,List.mem_append,decide_eq_true_eq]
    have mW:∀ o,o ∈ W↔o ∈ ww∧o<st.nx:=fun o=>by rw [hW];simp
    have hFl:∀ q ∈ F,q≤bo:=fun q hq=>by have:=((mF q).1 hq).2;omega
    have hmask:∀ o,(ij st'.h F).get o=if o ∈ F then st'.h.get o else none:=fun o=>ng _ _ _ hFl
    obtain ⟨h1',e1,e2⟩:=k7 (ij st'.h F) [] [] (fun o x hx=>by
     rw [hmask] at hx
     by_cases ho:o ∈ F
     ·exact ((mF o).1 ho).2
     ·rw [if_neg ho] at hx;cases hx) (fun o ho=>by
     rw [hmask]
     by_cases hlt:o<st.nx
     ·rw [if_pos ((mF o).2 ⟨ho,hlt⟩)];exact hh o
     ·rw [if_neg (fun h=>hlt ((mF o).1 h).2)]
      cases hx:st.h.get o with
      |none=>rfl
      |some x=>exact absurd (hlo o x hx) hlt)
    rw [List.append_nil,List.append_nil] at e1
    refine ⟨F,W,v,{ h:=h1',nx:=au.nx,rl:=rr,wl:=ww },?_,fun q hq=>(mF q).2 ⟨.inr ((mW q).1 hq).1,((mW q).1 hq).2⟩,fun q hq hqn=>?_,fun q hq=>by rw [hnx];exact ((mF q).1 hq).2,hlim,?_⟩
    ·rw [← Kx,hnx];exact e1
    ·simp only
     rw [e2,if_neg (fun h=>hqn ((mW q).2 ⟨h,((mF q).1 hq).2⟩))]
    ·have eu:∀ q ∈ F++cq st'.nx (au.nx - st'.nx),q≤bo:=fun q hq=>by
      rcases List.mem_append.1 hq with hq|hq
      ·exact hFl q hq
      ·rw [fl] at hq;omega
     refine ih _ _ _ _ _ r h hlo1 (fun q=>?_) rfl (by simp [hlen]) (hsnoc _ _ ⟨fun q hq=>?_,fun q hq=>?_⟩) hc hk
     ·simp only
      rw [ly _ _ _ _ eu]
      by_cases hq:q ∈ F++cq st'.nx (au.nx - st'.nx)
      ·rw [if_pos hq,e2]
       by_cases hw:q ∈ ww
       ·rw [if_pos hw]
       ·rw [if_neg hw,hmask]
        have hqF:q ∈ F:=by
         rcases List.mem_append.1 hq with hq|hq
         ·exact hq
         ·rw [fl] at hq
          exact absurd (k5 q (by omega) (by omega)) hw
        rw [if_pos hqF,hh q]
        exact (k6 q hw).symm
      ·rw [if_neg hq]
       have hw:q ∉ ww:=fun hw=>hq (by
        rcases Nat.lt_or_ge q st.nx with h9|h9
        ·exact List.mem_append.2 (.inl ((mF q).2 ⟨.inr hw,h9⟩))
        ·refine List.mem_append.2 (.inr ?_)
         rw [fl]
         have:=k4 q hw
         omega)
       rw [hh q]
       exact (k6 q hw).symm
     ·simp only [k3]
      rcases List.mem_append.1 hq with hq|hq
      ·exact ((mW q).1 hq).1
      ·rw [fl] at hq
       simp only at hq
       exact k5 q (by omega) (by omega)
     ·simp only [k2,k3]
      exact ((mF q).1 hq).1
   |false=>
    refine .inr ⟨hb,?_⟩
    simp only at h
    exact ih _ _ _ _ _ r h hlo hh hnx (by simp [hlen]) (hsnoc _ _ ⟨fun o ho=>ho,fun o ho=>.inl ho⟩) hc hk
abbrev XR:=Ex × SL × St
structure XC where
 run:eg→Nat→SL→St→Option XR
def xe (P:Program) (ex:Nat) (ops:Array Oper) (draw:Bool):XC:=
 match draw with
 |false=>⟨fun look _ L st=>
  match (pd P ops ops.toList).run look L st with
  |some p=>some (.normal,m4 (kr ex ops) p.1 L,p.2)
  |none=>none⟩
 |true=>⟨fun look _ L st=>
  bif j9 ops then
   match m7 P look ops ops.toList [] L st with
   |some r=>bif cy (Region.before ops) 0 r.1 then (match my P ops r.1 r.2.1 r.2.2 with|some u=>some (.normal,m4 (kr ex ops) r.2.1 L,u.2)|none=>none) else none
   |none=>none
  else none⟩
def Bk (B:SL→St→Option XR) (r:Option XR):Option XR:=
 match r with
 |some p=>
  match p.1 with
  |.normal=>B p.2.1 p.2.2
  |e=>some (e,p.2.1,p.2.2)
 |none=>none
def yg (id:Nat) (e:Ex):Ex:=
 match e with
 |.exit j=>bif Nat.beq j id then .normal else .exit j
 |e=>e
def My (B:SL→St→Option XR) (n:Nat):SL→St→Option XR:=
 Nat.rec (motive:=fun _=>SL→St→Option XR) (fun _ _=>none) (fun _ ih L st=>Bk ih (B (ld L 0) st)) n
abbrev re:=Ex × Option Ex × SL × St
abbrev RX:=List AV→St→Option (Ex × St)
def Fg (y:Nat) (o:Oper) (L:SL):Option (Array Operand):=
 match o.op with
 |.call { callee:=.value f,args,.. }=>
  match bf L f with
  |.yl k=>bif Nat.beq k y then some args else none
  |_=>none
 |_=>none
def pz (P:Program) (look:eg) (ops:Array Oper) (y:Nat) (R:RX) (o:Oper) (pe:Option Ex) (L:SL) (st:St):Option (Option Ex × SL × St):=
 match tx ops L o with
 |some true=>
  match Fg y o L with
  |some args=>
   match pe with
   |none=>
    match R (args.toList.map (bf L)) st with
    |some q=>some (Hv q.1,fc o.dst (.sc (.bool (rq q.1))) L,q.2)
    |none=>none
   |some _=>none
  |none=>
   match (jk P o).run look (bf L) st with
   |some (v,st')=>some (pe,fc o.dst v L,st')
   |none=>none
 |some false=>some (pe,fc o.dst (.sc undef) L,st)
 |none=>none
structure XIO where
 run:eg→Nat→RX→Option Ex→SL→St→Option (Option Ex × SL × St)
def n6 (P:Program) (ops:Array Oper) (l:List Oper):XIO:=
 List.rec (motive:=fun _=>XIO) ⟨fun _ _ _ pe L st=>some (pe,L,st)⟩ (fun o _ ih=>⟨fun look y R pe L st=>
  match pz P look ops y R o pe L st with
  |some p=>ih.run look y R p.1 p.2.1 p.2.2
  |none=>none⟩) l
structure XIC where
 run:eg→Nat→Nat→RX→Option Ex→SL→St→Option re
def am9 (P:Program) (ex:Nat) (ops:Array Oper) (draw:Bool):XIC:=
 match draw with
 |false=>⟨fun look _ y R pe L st=>
  match (n6 P ops ops.toList).run look y R pe L st with
  |some p=>some (.normal,p.1,m4 (kr ex ops) p.2.1 L,p.2.2)
  |none=>none⟩
 |true=>⟨fun look n _ _ pe L st=>
  match (xe P ex ops true).run look n L st with
  |some q=>some (q.1,pe,q.2.1,q.2.2)
  |none=>none⟩
def Aw (B:Option Ex→SL→St→Option re) (r:Option re):Option re:=
 match r with
 |some p=>
  match p.1 with
  |.normal=>B p.2.1 p.2.2.1 p.2.2.2
  |e=>some (e,p.2)
 |none=>none
def Ml (B:Option Ex→SL→St→Option re) (n:Nat):Option Ex→SL→St→Option re:=
 Nat.rec (motive:=fun _=>Option Ex→SL→St→Option re) (fun _ _ _=>none) (fun _ ih pe L st=>Aw ih (B pe (ld L 0) st)) n
def jw (P:Program) (ex:Nat) (c:Code):XIC:=
 Code.rec (motive:=fun _=>XIC)
  ⟨fun _ _ _ _ pe L st=>some (.normal,pe,L,st)⟩
  (fun _ ops draw=>am9 P ex ops draw)
  (fun _ _ A B=>⟨fun look n y R pe L st=>Aw (B.run look n y R) (A.run look n y R pe L st)⟩)
  (fun c _ _ A B=>⟨fun look n y R pe L st=>
   match (bf L c).bool with
   |some b=>bif b then A.run look n y R pe L st else B.run look n y R pe L st
   |none=>none⟩)
  (fun id _ B=>⟨fun look n y R pe L st=>
   match B.run look n y R pe L st with
   |some p=>some (yg id p.1,p.2)
   |none=>none⟩)
  (fun _ B=>⟨fun look n y R pe L st=>Ml (B.run look n y R) n pe L st⟩)
  (fun _ _ _ _ _ _=>⟨fun _ _ _ _ _ _ _=>none⟩)
  (fun id=>⟨fun _ _ _ _ pe L st=>some (.exit id,pe,L,st)⟩)
  (fun _ _=>⟨fun _ _ _ _ _ _ _=>none⟩)
  (fun _=>⟨fun _ _ _ _ pe L st=>some (.normal,pe,L,st)⟩)
  (fun _=>⟨fun _ _ _ _ _ _ _=>none⟩)
  ⟨fun _ _ _ _ pe L st=>some (.ret,pe,L,st)⟩
  (fun _=>⟨fun _ _ _ _ _ _ _=>none⟩)
  c
def al2 (ops:Array Oper) (o:Oper):List Nat:=
 (o.op.operands.toList.filterMap fun x=>match x with|.tmp u=>some u|_=>none)++(match o.guard with|some (j,_)=>[qz ops j]|none=>[])
def ai1 (seen:Nat) (l:List Nat) (s:Nat):Nat:=List.rec (motive:=fun _=>Nat→Nat) (fun s=>s) (fun t _ ih s=>ih (bif hasB seen t then s else G8 s t)) l s
def ai6 (ops:Array Oper) (l:List Oper) (seen s:Nat):Nat:=
 List.rec (motive:=fun _=>Nat→Nat→Nat) (fun _ s=>s) (fun o _ ih seen s=>ih (match o.dst with|some d=>G8 seen d|none=>seen) (ai1 seen (al2 ops o) s)) l seen s
def am8 (c:Operand) (s:Nat):Nat:=match c with|.tmp t=>G8 s t|_=>s
def l7 (c:Code):Nat→Nat:=
 Code.rec (motive:=fun _=>Nat→Nat) (fun s=>s) (fun _ ops _ s=>ai6 ops ops.toList 0 s) (fun _ _ A B s=>B (A s))
  (fun c _ _ A B s=>B (A (am8 c s))) (fun _ _ B=>B) (fun _ B=>B) (fun f _ _ _ A B s=>B (A (am8 f s))) (fun _ s=>s) (fun _ B=>B) (fun _ s=>s) (fun _ s=>s) (fun s=>s) (fun _ s=>s) c
def ao8 (l:List ResultVar) (s:Nat):Nat:=List.rec (motive:=fun _=>Nat→Nat) (fun s=>s) (fun r _ ih s=>ih (G8 s (match r with|.tmp t=>t|.cell a _=>a))) l s
def qa (ex:Nat) (L:SL):SL:=List.rec (motive:=fun _=>SL) [] (fun p _ ih=>bif hasB ex p.1 then p::ih else ih) L
def Ot (ex:Nat) (ps:List Tmp):List AV→SL→SL:=
 List.rec (motive:=fun _=>List AV→SL→SL) (fun _ L=>L) (fun t _ ih vs L=>
  match vs with
  |v::vs=>ih vs (bif hasB ex t then (t,v)::L else L)
  | []=>L) ps
structure XIF where
 ok:Bool
 nt:Nat
 run:eg→Nat→Nat→RX→List AV→St→Option re
def vn (P:Program) (g:Nat):XIF:=
 match xq P g with
 |some q=>⟨true,q.1,fun look n y R args st=>(jw P (l7 q.2 0) q.2).run look n y R none (qa (l7 q.2 0) (cg 0 args)) st⟩
 |none=>⟨false,0,fun _ _ _ _ _ _=>none⟩
def qe (ex:Nat) (A B:SL→St→Option XR) (ps:List Tmp) (L:SL):RX:=fun args st=>
 bif Nat.beq args.length ps.length then
  match A (Ot ex ps args L) st with
  |some p=>
   match p.1 with
   |.normal=>
    match B p.2.1 p.2.2 with
    |some q=>some (q.1,q.2.2)
    |none=>none
   |_=>none
  |none=>none
 else none
def ap6 (L:SL) (r:Option re):Option XR:=
 match r with
 |some q=>
  match q.1 with
  |.exit _=>none
  |_=>
   match q.2.1 with
   |none=>some (.normal,L,q.2.2.2)
   |some e=>some (e,L,q.2.2.2)
 |none=>none
def Z4:M Nat:=fun st=>some (st.nx,{ h:=st.h,nx:=st.nx+1,rl:=st.rl,wl:=st.nx::st.wl })
def qd (P:Program) (ex:Nat) (look:eg) (n:Nat) (f:Operand) (ps:List Tmp) (A B:SL→St→Option XR) (L:SL) (st:St):Option XR:=
 match tf (bf L f) with
 |some q=>
  bif (vn P q.1).ok && Nat.ble (q.2.length+1) (vn P q.1).nt then
   ap6 L ((vn P q.1).run look n st.nx (qe ex A B ps L) (.yl st.nx::q.2) { h:=st.h,nx:=st.nx+1,rl:=st.rl,wl:=st.nx::st.wl })
  else none
 |none=>none
def m8 (P:Program) (ex:Nat) (c:Code):XC:=
 Code.rec (motive:=fun _=>XC)
  ⟨fun _ _ L st=>some (.normal,L,st)⟩
  (fun _ ops draw=>xe P ex ops draw)
  (fun _ _ A B=>⟨fun look n L st=>Bk (B.run look n) (A.run look n L st)⟩)
  (fun c _ _ A B=>⟨fun look n L st=>
   match (bf L c).bool with
   |some b=>bif b then A.run look n L st else B.run look n L st
   |none=>none⟩)
  (fun id _ B=>⟨fun look n L st=>
   match B.run look n L st with
   |some p=>some (yg id p.1,p.2.1,p.2.2)
   |none=>none⟩)
  (fun _ B=>⟨fun look n L st=>My (B.run look n) n L st⟩)
  (fun f ps _ _ A B=>⟨fun look n L st=>qd P ex look n f ps.toList (A.run look n) (B.run look n) L st⟩)
  (fun id=>⟨fun _ _ L st=>some (.exit id,L,st)⟩)
  (fun _ B=>B)
  (fun _=>⟨fun _ _ L st=>some (.normal,L,st)⟩)
  (fun _=>⟨fun _ _ _ _=>none⟩)
  ⟨fun _ _ L st=>some (.ret,L,st)⟩
  (fun _=>⟨fun _ _ _ _=>none⟩)
  c
theorem y5 {B:SL→St→Option XR} {r:Option XR} {q:XR} (h:Bk B r=some q):(∃ L st,r=some (.normal,L,st)∧B L st=some q)∨(r=some q∧q.1 ≠ .normal):=by
 unfold Bk at h
 cases r with
 |none=>cases h
 |some p=>
  obtain ⟨e,L,st⟩:=p
  simp only at h
  cases e with
  |normal=>exact .inl ⟨L,st,rfl,h⟩
  |exit id=>cases h;exact .inr ⟨rfl,fun h=>by cases h⟩
  |ret=>cases h;exact .inr ⟨rfl,fun h=>by cases h⟩
def uv (X:St→Option XR):M (Ex × SL):=jg X
theorem Gu {X:St→Option XR} {B:SL→St→Option XR} (hX:ae (uv X)) (hB:∀ L,ae (uv (B L))):ae (uv fun st=>Bk B (X st)):=by
 refine (ae.bind hX (fun p:Ex × SL=>(?_:ae (match p.1 with|.normal=>uv (B p.2)|e=>M.pure (e,p.2))))).congr (fun st=>?_)
 ·split
  ·exact hB _
  ·exact ae.pure _
 ·unfold uv jg M.bind Bk
  dsimp only
  cases X st with
  |none=>rfl
  |some q=>
   obtain ⟨e,L,au⟩:=q
   cases e<;>rfl
theorem Sh {P:Program} (ops:Array Oper) (recs:List Rec) (L:SL):ae (my P ops recs L):=by
 unfold my Ua af6
 repeat' (first|exact ae.pure _|exact ae.fail|exact ae.bp _|exact ae.fk _ _|apply ae.cond|(refine ae.bind ?_ fun x=>?_)|split)
theorem Ha {P:Program} {look:eg} (hl:g7 look) (ex:Nat) (ops:Array Oper) (draw:Bool) (n:Nat) (L:SL):ae (uv ((xe P ex ops draw).run look n L)):=by
 cases draw with
 |false=>
  refine (ae.bind (E2 (P:=P) hl ops ops.toList L) (fun L'=>ae.pure (Ex.normal,m4 (kr ex ops) L' L))).congr (fun st=>?_)
  show jg (fun st=>match (pd P ops ops.toList).run look L st with
  |some p=>some (Ex.normal,m4 (kr ex ops) p.1 L,p.2)
  |none=>none) st=_
  unfold jg M.bind
  simp only
  cases (pd P ops ops.toList).run look L st<;>rfl
 |true=>
  cases h0:j9 ops with
  |false=>
   refine ae.fail.congr (fun st=>?_)
   show jg (fun st=>bif j9 ops then _ else none) st=_
   unfold jg
   rw [h0];rfl
  |true=>
   refine (ae.bind (Gi (P:=P) hl ops ops.toList [] L) (fun p=>(?_:ae (bif cy (Region.before ops) 0 p.1 then (my P ops p.1 p.2).bind (fun _=>M.pure (Ex.normal,m4 (kr ex ops) p.2 L)) else M.fail)))).congr (fun st=>?_)
   ·exact ae.cond (ae.bind (Sh _ _ _) (fun _=>ae.pure _)) ae.fail
   ·show jg (fun st=>bif j9 ops then
     match m7 P look ops ops.toList [] L st with
     |some r=>bif cy (Region.before ops) 0 r.1 then (match my P ops r.1 r.2.1 r.2.2 with|some u=>some (Ex.normal,m4 (kr ex ops) r.2.1 L,u.2)|none=>none) else none
     |none=>none
    else none) st=_
    unfold jg M.bind
    rw [h0]
    simp only [cond_true]
    cases m7 P look ops ops.toList [] L st with
    |none=>rfl
    |some r=>
     simp only
     cases cy (Region.before ops) 0 r.1 with
     |false=>rfl
     |true=>
      show _=M.bind (my P ops r.1 r.2.1) (fun _=>M.pure (Ex.normal,m4 (kr ex ops) r.2.1 L)) r.2.2
      unfold M.bind
      simp only [cond_true]
      cases my P ops r.1 r.2.1 r.2.2<;>rfl
theorem zy {X:SL→St→Option XR} (h:∀ L,ae (uv (X L))):∀ (n:Nat) (L:SL),ae (uv (My X n L))
 |0,_L=>ae.fail.congr (fun _st=>rfl)
 |n+1,L=>(Gu (h (ld L 0)) (zy h n)).congr (fun _st=>rfl)
theorem vk {P:Program} {ex:Nat} {ops:Array Oper} {draw:Bool} {look:eg} {n:Nat} {L:SL} {st:St} {q:XR} (h:(xe P ex ops draw).run look n L st=some q) (hw:j8 ex L) :
 q.1 = .normal∧j8 ex q.2.1∧∃ L1,Oy q.2.1 L1∧match draw with
  |false=>(pd P ops ops.toList).run look L st=some (L1,q.2.2)
  |true=>j9 ops=true∧∃ recs st2 u,m7 P look ops ops.toList [] L st=some (recs,L1,st2)∧my P ops recs L1 st2=some (u,q.2.2)∧cy (Region.before ops) 0 recs=true:=by
 cases draw with
 |false=>
  change (match (pd P ops ops.toList).run look L st with
  |some p=>some (Ex.normal,m4 (kr ex ops) p.1 L,p.2)
  |none=>none)=some q at h
  cases h1:(pd P ops ops.toList).run look L st with
  |none=>rw [h1] at h;cases h
  |some p=>
   rw [h1] at h
   cases h
   have:=xg hw (fun t ht=>aep (t:=t) _ _ _ _ h1 ht)
   exact ⟨rfl,this.2,p.1,this.1,rfl⟩
 |true=>
  change (bif j9 ops then
   match m7 P look ops ops.toList [] L st with
   |some r=>bif cy (Region.before ops) 0 r.1 then (match my P ops r.1 r.2.1 r.2.2 with|some u=>some (Ex.normal,m4 (kr ex ops) r.2.1 L,u.2)|none=>none) else none
   |none=>none
  else none)=some q at h
  cases h0:j9 ops with
  |false=>rw [h0] at h;cases h
  |true=>
   rw [h0,cond_true] at h
   cases h1:m7 P look ops ops.toList [] L st with
   |none=>rw [h1] at h;cases h
   |some r=>
    rw [h1] at h
    simp only at h
    cases h2:cy (Region.before ops) 0 r.1 with
    |false=>rw [h2] at h;cases h
    |true=>
     rw [h2,cond_true] at h
     cases h3:my P ops r.1 r.2.1 r.2.2 with
     |none=>rw [h3] at h;cases h
     |some u=>
     rw [h3] at h
     cases h
     have:=xg hw (fun t ht=>aij (t:=t) _ _ _ _ _ h1 ht)
     exact ⟨rfl,this.2,r.2.1,this.1,rfl,r.1,r.2.2,u.1,rfl,h3,h2⟩
theorem Jn:∀ {l:List Oper},Fv l=none→∀ o ∈ l,p0 o=false
 | [],_,o,ho=>by cases ho
 |a::l,h,o,ho=>by
  change (bif p0 a then some a else Fv l)=none at h
  cases ha:p0 a with
  |true=>rw [ha] at h;cases h
  |false=>
   rw [ha,cond_false] at h
   rcases List.mem_cons.1 ho with rfl|ho
   ·exact ha
   ·exact Jn h o ho
theorem D6 {f:Nat→Oper→Option Lit} (hf:∀ i o q,f i o=some q→q.i=i):∀ (l:List Oper) (n:Nat) (lits:List Lit),Ea f l n=some lits →
 (∀ q ∈ lits,∃ j o,l[j]? = some o∧q.i=n+j∧f q.i o=some q)∧(∀ j o,l[j]? = some o→p0 o=true→∃ q ∈ lits,q.i=n+j)∧(lits.map (·.i)).Nodup
 | [],n,lits,h=>by cases h;exact ⟨fun q hq=>(by cases hq),fun j o hj=>(by simp at hj),List.nodup_nil⟩
 |a::l,n,lits,h=>by
  unfold Ea at h
  cases ha:p0 a with
  |true=>
   rw [ha,cond_true] at h
   split at h
   ·rename_i q l' hq hl'
    cases h
    obtain ⟨h1,h2,h3⟩:=D6 hf l (n+1) l' hl'
    have hqi:=hf _ _ _ hq
    refine ⟨fun r hr=>?_,fun j o hj ho=>?_,?_⟩
    ·rcases List.mem_cons.1 hr with rfl|hr
     ·exact ⟨0,a,rfl,by omega,by rw [hqi];exact hq⟩
     ·obtain ⟨j,o,q1,q2,q3⟩:=h1 r hr
      exact ⟨j+1,o,by simpa using q1,by omega,q3⟩
    ·cases j with
     |zero=>exact ⟨q,by simp,by omega⟩
     |succ j=>
      obtain ⟨r,r1,r2⟩:=h2 j o (by simpa using hj) ho
      exact ⟨r,by simp [r1],by omega⟩
    ·rw [List.map_cons,List.nodup_cons]
     refine ⟨fun hm=>?_,h3⟩
     obtain ⟨r,r1,r2⟩:=List.mem_map.1 hm
     obtain ⟨j,o,q1,q2,q3⟩:=h1 r r1
     omega
   ·cases h
  |false=>
   rw [ha,cond_false] at h
   obtain ⟨h1,h2,h3⟩:=D6 hf l (n+1) lits h
   refine ⟨fun r hr=>?_,fun j o hj ho=>?_,h3⟩
   ·obtain ⟨j,o,q1,q2,q3⟩:=h1 r hr
    exact ⟨j+1,o,by simpa using q1,by omega,q3⟩
   ·cases j with
    |zero=>simp at hj;subst hj;rw [ha] at ho;cases ho
    |succ j=>
     obtain ⟨r,r1,r2⟩:=h2 j o (by simpa using hj) ho
     exact ⟨r,r1,by omega⟩
theorem M2 {P:Program} {ops:Array Oper} {L:SL} {p k0 i:Nat} {o:Oper} {q:Lit} (h:H3 P ops L p k0 i o=some q) :
 ∃ t m k x kt et,o.op = .insert t m k x∧o.dst=none∧o.guard=none∧P.underlying t=some (.map kt et)∧P.underlying kt=some q.d∧bf L m = .mp p∧(bf L k).du=some q.e.1∧ev P (Instr.checkKey false 10000 kt q.e.1)=some ()∧bf L x=q.e.2∧q.i=i∧((Region.before ops).getD i 0).testBit k0=true∧Lf ops i o=true:=by
 unfold H3 at h
 split at h
 ·rename_i t m k x h1 h2 h3
  split at h
  ·rename_i kt et h4
   split at h
   ·rename_i d key h5 h6
    split at h
    ·rename_i u h7
     cases hb:((ain p (bf L m) && ((Region.before ops).getD i 0).testBit k0) && Lf ops i o) with
     |false=>rw [hb] at h;cases h
     |true=>
      rw [hb] at h
      cases h
      simp only [Bool.and_eq_true] at hb
      have hmp:bf L m = .mp p:=by
       have:=hb.1.1
       unfold ain at this
       split at this
       ·rename_i r he;rw [he,Nat.eq_of_beq_eq_true this]
       ·cases this
      exact ⟨t,m,k,x,kt,et,h1,h2,h3,h4,h5,hmp,h6,h7,rfl,rfl,hb.1.2,hb.2⟩
    ·cases h
   ·cases h
  ·cases h
 ·cases h
theorem Rb {ds:List DS} {L0:SL} {D:Nat→Bool} {i t:Nat}:∀ m,i≤m→(∀ k e,i≤k→ds[k]? = some e→e.o.dst≠some t)→ig ds L0 D m t=ig ds L0 D i t
 |0,h,_=>by rw [show i=0 from by omega]
 |m+1,h,hn=>by
  by_cases e:i=m+1
  ·rw [e]
  ·have ih:=Rb (L0:=L0) (D:=D) m (by omega) hn
   rw [ig]
   cases hd:ds[m]? with
   |none=>exact ih
   |some d=>
    simp only
    rw [if_neg (fun q=>hn m d (by omega) hd q.2),ih]
theorem Ks {P:Program} {T:cw} {ops:Array Oper} {ds:List DS} {L0:SL} {st0:St} {L':SL} {st':St} (R:p9 P T ops ds L0 st0 L' st') {i:Nat} {d:DS} (hi:ds[i]? = some d) (hl:Lf ops i d.o=true) {y:Operand} (hy:y ∈ d.o.op.operands):bd d.o d.L y=bf L' y:=by
 cases y with
 |tmp t=>
  have hany:Ib d.o t=true:=by
   unfold Ib
   rw [Array.any_eq_true']
   exact ⟨_,hy,by simp⟩
  show (bif Ib d.o t then lk d.L t else .bad)=lk L' t
  rw [hany,cond_true,(R.rj i d hi).1 t,R.fin.1 t,Rb (i:=i) ds.length (Nat.le_of_lt (List.getElem?_eq_some_iff.1 hi).1) (fun k e hik hk he=>?_)]
  have hz:(e.o,k) ∈ ops.toList.zipIdx:=by rw [List.mem_zipIdx_iff_getElem?,← R.os];simp [hk]
  have:=List.all_eq_true.1 hl _ hz
  simp only [he,hany,Bool.not_true,Bool.or_false,Nat.blt_eq] at this
  omega
 |const v=>rfl
 |global g=>rfl
 |func f=>rfl
theorem abh {p:Nat}:∀ {l:List Rec} {i k:Nat},Pj p l i=some k→i≤k∧k<i+l.length
 | [],_,_,h=>by cases h
 |a::l,i,k,h=>by
  unfold Pj at h
  cases hb:ub p a.W with
  |true=>rw [hb] at h;cases h;simp
  |false=>
   rw [hb,cond_false] at h
   have:=abh h
   simp only [List.length_cons]
   omega
theorem Yi {P:Program} {ops:Array Oper} {recs:List Rec} {L:SL} {st2 stF:St} {u:Unit} (h:my P ops recs L st2=some (u,stF)):(Fv ops.toList=none∧stF=st2) ∨
 ∃ p k0 lits,Pj p recs 0=some k0∧Ea (H3 P ops L p k0) ops.toList 0=some lits∧Tb ops recs p k0 lits=true∧st2.h.get p=some (.map [])∧stF.h=st2.h.set depth p (some (.map (lits.map (·.e))))∧stF.nx=st2.nx:=by
 cases hins:Fv ops.toList with
 |none=>
  simp only [my,hins] at h
  cases h
  exact .inl ⟨rfl,rfl⟩
 |some o=>
  refine .inr ?_
  cases hop:o.op with
  |insert t m k x=>
   cases hmp:bf L m with
   |mp p=>
    simp only [my,hins,hop,hmp,Ua] at h
    cases hk:Pj p recs 0 with
    |none=>rw [hk] at h;cases h
    |some k0=>
    rw [hk] at h
    simp only at h
    cases hq:Ea (H3 P ops L p k0) ops.toList 0 with
    |none=>rw [hq] at h;cases h
    |some lits=>
    rw [hq] at h
    simp only at h
    cases hb:Tb ops recs p k0 lits with
    |false=>rw [hb] at h;cases h
    |true=>
    rw [hb,cond_true] at h
    obtain ⟨x,s1,g1,g2⟩:=bind_some h
    obtain ⟨hx,hs1,hn1⟩:=ef g1
    cases x with
    |map es=>
     cases es with
     |nil=>
      change fk p (.map (lits.map (·.e))) s1=some (u,stF) at g2
      obtain ⟨_,_,hF,hnF⟩:=rz g2
      exact ⟨p,k0,lits,hk,hq,hb,hx,by rw [hF,hs1],by rw [hnF,hn1]⟩
     |cons e es=>cases g2
    |row cells k st et=>cases g2
    |loop=>cases g2
   |_=>simp only [my,hins,hop,hmp] at h;cases h
  |_=>simp only [my,hins,hop] at h;cases h
theorem amh {P:Program} {look:eg} (hT:ll P (pc look)) (hl:g7 look) (hm:P.follows .mixedOrders=true) {id:Nat} {ops:Array Oper} {ro:Option Nat} {N:Nat} {B:ee} {nt:Nat} (hg:mq nt ops=true) (hdst:qf nt ops=true) (h0:j9 ops=true) {L L1:SL} {st st2 stF:St} {u:Unit} {recs:List Rec} {g:Gh} {w:World} {a:Act} {Q:Exit→Act→World→Prop}
 (h1:m7 P look ops ops.toList [] L st=some (recs,L1,st2)) (h3:my P ops recs L1 st2=some (u,stF)) (h2:cy (Region.before ops) 0 recs=true) (hlo:ou st) (hn:B.qw st.nx stF.nx) (hc:dz B g st w) (hr:cx g w nt L a.tmps) (hd:Marks B.n0 st.h g w a.defers)
 (hK:∀ g w a',dz B g stF w→cx g w nt L1 a'.tmps→Marks B.n0 stF.h g w a'.defers→a'.defers=a.defers→Q .normal a' w):(Code.region id ops true).wpIn (ed ro) N P Q a w:=by
 have hy:=ajq (E:=fun l'=>cy (Region.before ops) 0 l'=true∧recs.length=l'.length∧∀ (k:Nat) x y,recs[k]? = some x→l'[k]? = some y→th x y) (K:=fun L2 s=>L2=L1∧(∀ o,s.h.get o=st2.h.get o)∧s.nx=st2.nx) hl ops.toList [] [] L st st (recs,L1,st2) h1 hlo (fun _=>rfl) rfl rfl (fun k x y hx=>by simp at hx) (fun l' hl hs=>⟨Iz _ _ 0 hl hs h2,hl,hs⟩) (fun s k1 k2=>⟨rfl,k1,k2⟩)
 obtain ⟨ds,L',st',e1,e2,e3,⟨e4,e5,e6⟩,rfl,e8,e9⟩:=ai4 _ _ _ _ hy
 rw [List.nil_append] at e4 e5 e6
 have R:=ah8 h0 e1 (fun d hd=>(e2 d hd).1) e3
 have C:=amg e4
 have hgY:∀ d ∈ ds,q9 ops d.L d.o=some d.want:=fun d hd=>(e2 d hd).2
 have hlo2:ou st2:=(Gi (P:=P) hl ops ops.toList [] L).low hlo (show jg (m7 P look ops ops.toList [] L) st=some ((recs,L'),st2) from by unfold jg;rw [h1])
 rcases Yi h3 with ⟨hins,rfl⟩|⟨p,k0,lits,hk0,hlits,hb,hx,hF,hnF⟩
 ·refine Qe hm (H:=fun D o=>gu ds st.h D ds.length o) (stF:=stF) R (fun o=>A2 _) (fun D hD o=>by rw [D7 _ hD,← R.fin.2.1 o,e8]) e9.symm (fun w0 D a' w' i d Q K hi hD hrd A hK=>?_) (by rw [e9];exact hn) hc hr hd hK
  have hmem:=List.mem_of_getElem? hi
  have hni:p0 d.o=false:=Jn hins d.o (by rw [← e1];exact List.mem_map_of_mem hmem)
  have hgv:=hgY d hmem
  unfold q9 at hgv
  rw [hni] at hgv
  exact At.step hT R hg hdst hi hgv (zl R C hi hD A.closed hrd).1 (zl R C hi hD A.closed hrd).2 hD hrd A hK
 ·obtain ⟨s1',s2',s3'⟩:=D6 (f:=H3 P ops L' p k0) (fun i o q h=>by
   obtain ⟨_,_,_,_,_,_,_,_,_,_,_,_,_,_,_,h,_⟩:=M2 h
   exact h) _ _ _ hlits
  simp only [Tb,Bool.and_eq_true,List.all_eq_true] at hb
  obtain ⟨⟨b1,b2⟩,b3,b4⟩:=hb
  have hplim:p≤bo:=Nat.le_of_ble_eq_true b2
  have hlen:ds.length=recs.length:=by rw [e5];simp
  have hk0l:=abh hk0
  obtain ⟨d0,hd0⟩:∃ d0,ds[k0]? = some d0:=⟨ds[k0]'(by omega),by simp⟩
  refine agn hT hm hg hdst R C hgY (p:=p) (k0:=k0) (lits:=lits) ⟨s3',fun q hq r hr hne=>?_⟩ (fun q hq=>?_) (fun i d hi hins=>?_) hd0 ?_ (fun k e hk hne=>?_) (by rw [e8];exact hx) (by rw [e9];exact hlo2 p _ hx) hplim (fun o=>?_) (by rw [hnF,e9]) (by rw [e9,← hnF];exact hn) hc hr hd hK
  ·have:=b1 q hq r hr
   simp only [Bool.or_eq_true,Bool.and_eq_true] at this
   rcases this with h|h
   ·exact absurd (Nat.eq_of_beq_eq_true h) hne
   ·refine ⟨h.1,?_⟩
    have:=h.2
    unfold isFalse at this
    split at this
    ·assumption
    ·cases this
  ·obtain ⟨j,o,q1,q2,q3⟩:=s1' q hq
   rw [Nat.zero_add] at q2
   subst q2
   obtain ⟨t,m,k,x,kt,et,a1,a2,a3,a4,a5,a6,a7,a8,a9,_,a11,a12⟩:=M2 q3
   obtain ⟨d,hd⟩:∃ d,ds[q.i]? = some d:=⟨ds[q.i]'(by rw [R.len];simpa using (List.getElem?_eq_some_iff.1 q1).1),by simp⟩
   have hdo:d.o=o:=by
    have:=R.get hd
    rw [← Array.getElem?_toList,q1] at this
    cases this;rfl
   subst hdo
   have hin:∀ y,y=m∨y=k∨y=x→y ∈ d.o.op.operands:=fun y hy=>by
    rw [a1]
    rcases hy with rfl|rfl|rfl<;>simp [Op.operands]
   exact ⟨⟨d,hd,t,m,k,x,kt,et,a1,a2,a3,a4,a5,by rw [Ks R hd a12 (hin m (.inl rfl))];exact a6,by rw [Ks R hd a12 (hin k (.inr (.inl rfl)))];exact a7,a8,by rw [Ks R hd a12 (hin x (.inr (.inr rfl)))];exact a9⟩,a11⟩
  ·obtain ⟨q,hq,h⟩:=s2' i d.o (by rw [← e1];simp [hi]) hins
   exact ⟨q,hq,by omega⟩
  ·rw [R.get hd0] at b4
   simpa using b4
  ·have hrk:∃ r,recs[k]? = some r:=⟨recs[k]'(by have:=(List.getElem?_eq_some_iff.1 hk).1;omega),by simp⟩
   obtain ⟨r,hrk⟩:=hrk
   have h5:=b3 (r,k) (by rw [List.mem_zipIdx_iff_getElem?];simpa using hrk)
   simp only [Bool.or_eq_true,Bool.and_eq_true,Bool.not_eq_true'] at h5
   rcases h5 with h5|h5
   ·exact absurd (Nat.eq_of_beq_eq_true h5) hne
   ·have hsr:=e6 k r ⟨e.R,e.W⟩ hrk (by simp [hk])
    have n1:p ∉ r.R:=fun h=>by rw [(p8 p r.R).2 h] at h5;cases h5.1
    have n2:p ∉ r.W:=fun h=>by rw [(p8 p r.W).2 h] at h5;cases h5.2
    exact ⟨fun h=>(hsr.2 p h).elim n1 n2,fun h=>n2 (hsr.1 p h)⟩
  ·rw [hF,dj _ _ _ _ hplim,e8]
theorem Ve {P:Program} {look:eg} (hT:ll P (pc look)) (hl:g7 look) (hm:P.follows .mixedOrders=true) {ex n id:Nat} {ops:Array Oper} {draw:Bool} {ro:Option Nat} {N:Nat} {B:ee} {nt:Nat} (hs:cr nt (.region id ops draw)=true) {L:SL} {st:St} {q:XR} {g:Gh} {w:World} {a:Act} {Q:Exit→Act→World→Prop}
 (h:(xe P ex ops draw).run look n L st=some q) (hw:j8 ex L) (hlo:ou st) (hn:B.qw st.nx q.2.2.nx) (hc:dz B g st w) (hr:cx g w nt L a.tmps) (hd:Marks B.n0 st.h g w a.defers)
 (hQ:∀ g w a',dz B g q.2.2 w→cx g w nt q.2.1 a'.tmps→Marks B.n0 q.2.2.h g w a'.defers→(draw=true→a'.defers=a.defers)→Q .normal a' w):(Code.region id ops draw).wpIn (ed ro) N P Q a w:=by
 obtain ⟨e1,_,L1,e2,e3⟩:=vk h hw
 simp only [cr,Bool.and_eq_true] at hs
 cases draw with
 |false=>
  simp only at e3
  exact wpIn_region (aga hT hl hs.2 hs.1 (p:=(L1,q.2.2)) (fun g w a' hc hr hd=>hQ g w a' hc (hr.less e2) hd (fun h=>by cases h)) ops.toList _ (by simp) (A3 ops) L st g w a e3 hlo hn hc hr hd)
 |true=>
  obtain ⟨h0,recs,st2,u,h1,h3,h2⟩:=e3
  exact amh hT hl hm hs.2 hs.1 h0 h1 h3 h2 hlo hn hc hr hd (fun g w a' hc hr hd hdd=>hQ g w a' hc (hr.less e2) hd (fun _=>hdd))
structure Ff (P:Program) (ex:Nat) (c:Code) (X:SL→St→Option XR):Prop where
 within:∀ (L:SL) (st:St) (q:XR),X L st=some q→j8 ex L→j8 ex q.2.1
 ia:∀ L,ae (uv (X L))
 wp:∀ (ro:Option Nat) (N:Nat) (B:ee) (nt:Nat),B.n0≤B.w.heap.size→(ro=none∨c.mw=true)→cr nt c=true→∀ (L:SL) (st:St) (q:XR) (g:Gh) (w:World) (a:Act),X L st=some q→j8 ex L→ou st→B.qw st.nx q.2.2.nx→dz B g st w→cx g w nt L a.tmps→Marks B.n0 st.h g w a.defers →
  c.wpIn (ed ro) N P (Fin B nt (fun e L st=>(e,L,st)=q)) a w
theorem yx (L:SL) (t:Nat):lk (ld L 0) t=lk L t:=by
 rw [Fk,show hasB 0 t=false from by unfold hasB;rw [show Nat.shiftRight 0 t=0 from Nat.zero_shiftRight t];rfl];rfl
theorem Ff.le {P:Program} {ex:Nat} {c:Code} {X:SL→St→Option XR} (h:Ff P ex c X) {L:SL} {st:St} {q:XR} (hx:X L st=some q) (hl:ou st):st.nx≤q.2.2.nx:=(h.ia L st _ _ hl (xa hx)).1
theorem Ff.low {P:Program} {ex:Nat} {c:Code} {X:SL→St→Option XR} (h:Ff P ex c X) {L:SL} {st:St} {q:XR} (hx:X L st=some q) (hl:ou st):ou q.2.2:=(h.ia L).low hl (xa hx)
theorem ajw {P:Program} {ex:Nat} {c:Code} {X:SL→St→Option XR} (h:Ff P ex c X) (n:Nat):Ff P ex (.loop c) (My X n):=by
 have hw':∀ L,j8 ex L→j8 ex (ld L 0):=fun L hw t ht=>by rw [yx];exact hw t ht
 refine ⟨?_,zy h.ia n,?_⟩
 ·induction n with
  |zero=>intro L st q hx;cases hx
  |succ n ih=>
   intro L st q hx hw
   change Bk (My X n) (X (ld L 0) st)=some q at hx
   rcases y5 hx with ⟨L1,au,h1,h2⟩|⟨h1,_⟩
   ·exact ih _ _ _ h2 (h.within _ _ _ h1 (hw' L hw))
   ·exact h.within _ _ _ h1 (hw' L hw)
 ·intro ro N B nt hn0 hpl hs L st q g w a hx hw hlo hnr hc hr hd
  refine qy fun Y hY=>?_
  induction n generalizing L st g w a with
  |zero=>cases hx
  |succ n ih=>
   change Bk (My X n) (X (ld L 0) st)=some q at hx
   have hr':cx g w nt (ld L 0) a.tmps:=⟨hr.1,fun t=>by rw [yx];exact hr.2 t⟩
   rcases y5 hx with ⟨L1,au,h1,h2⟩|⟨h1,h2⟩
   ·have hlo1:=h.low h1 hlo
    have hle1:=h.le h1 hlo
    have hle2:au.nx≤q.2.2.nx:=(zy h.ia n L1 au _ _ hlo1 (xa h2)).1
    refine hY a w (wpIn_mono (h.wp ro N B nt hn0 hpl hs _ _ _ g w a h1 (hw' L hw) hlo (hnr.sub (Nat.le_refl _) hle2) hc hr' hd) ?_)
    rintro exx a1 w1 ⟨e1,L1',st1',g1,rfl,he,hc1,hr1,hd1⟩
    cases he
    exact ih L1 au g1 w1 a1 h2 (h.within _ _ _ h1 (hw' L hw)) hlo1 (hnr.sub hle1 (Nat.le_refl _)) hc1 hr1 hd1
   ·refine hY a w (wpIn_mono (h.wp ro N B nt hn0 hpl hs _ _ _ g w a h1 (hw' L hw) hlo hnr hc hr' hd) ?_)
    rintro exx a1 w1 ⟨e1,L1,au,g1,rfl,he,hc1,hr1,hd1⟩
    subst he
    cases e1 with
    |normal=>exact (h2 rfl).elim
    |exit id=>exact ⟨.exit id,L1,au,g1,rfl,rfl,hc1,hr1,hd1⟩
    |ret=>exact ⟨.ret,L1,au,g1,rfl,rfl,hc1,hr1,hd1⟩
end
end Go.Vm
namespace Go.Vm
noncomputable section
theorem Eg (ex:Nat) (t:Nat):∀ L:SL,lk (qa ex L) t=bif hasB ex t then lk L t else .bad
 | []=>by cases h:hasB ex t<;>rfl
 |p::L=>by
  obtain ⟨k,v⟩:=p
  show lk (bif hasB ex k then (k,v)::qa ex L else qa ex L) t=_
  rw [kx]
  cases hk:hasB ex k with
  |true=>
   rw [cond_true,kx,Eg ex t L]
   by_cases e:k=t
   ·subst e;rw [if_pos rfl,if_pos rfl,hk];rfl
   ·rw [if_neg e,if_neg e]
  |false=>
   rw [cond_false,Eg ex t L]
   by_cases e:k=t
   ·subst e;rw [hk];rfl
   ·rw [if_neg e]
theorem L9 (ex:Nat) (L:SL):Oy (qa ex L) L∧j8 ex (qa ex L):=
 ⟨fun t=>by rw [Eg];cases hasB ex t<;>simp,fun t ht=>by rw [Eg,ht];rfl⟩
theorem Qx (ex:Nat):∀ (ps:List Tmp) (vs:List AV) (L L0:SL),j8 ex L→Oy L L0→Oy (Ot ex ps vs L) (ux ps vs L0)∧j8 ex (Ot ex ps vs L)
 | [],vs,L,L0,hw,hl=>⟨hl,hw⟩
 |t::ps,[],L,L0,hw,hl=>⟨hl,hw⟩
 |t::ps,v::vs,L,L0,hw,hl=>by
  refine Qx ex ps vs (bif hasB ex t then (t,v)::L else L) ((t,v)::L0) ?_ ?_
  ·intro u hu
   cases ht:hasB ex t with
   |false=>exact hw u hu
   |true=>
    rw [cond_true,kx]
    by_cases e:t=u
    ·subst e;rw [ht] at hu;cases hu
    ·rw [if_neg e];exact hw u hu
  ·intro u
   cases ht:hasB ex t with
   |false=>
    rw [cond_false,kx]
    by_cases e:t=u
    ·subst e;exact .inr (hw t ht)
    ·rw [if_neg e];exact hl u
   |true=>
    rw [cond_true,kx,kx]
    by_cases e:t=u
    ·subst e;rw [if_pos rfl,if_pos rfl];exact .inl rfl
    ·rw [if_neg e,if_neg e];exact hl u
def adn (P:Program) (l:Nat) (rec:j6) (R:RX) (B1:ee):Prop:=
 ∀ (N:Nat) (args:List AV) (q:Ex × St) (g:Gh) (st:St) (w:World) (vs:List Value),ou st→B1.qw st.nx q.2.nx→dz B1 g st w→az g w args vs →
  w.heap[l]? = some (.loop (rec.at none))→dx g st.h l→R args st=some q →
  ∃ f tmps asg body,(Instr.yield l vs.toArray).run P w = .ok (.round l f tmps asg body) w∧RoundIn (ed none) N P l f tmps asg body w (fun e w'=>∃ g',e = .returned (.bool (rq q.1))∧dz (fi g st.h w st.nx (· = l) B1.far) g' q.2 w' ∧
   w'.heap[l]? = some (.loop (rec.at (Hv q.1)))∧dx g' q.2.h l)
theorem Sv {ex:Nat} {A B:SL→St→Option XR} (hA:∀ L,ae (uv (A L))) (hB:∀ L,ae (uv (B L))) (ps:List Tmp) (L:SL) (args:List AV):ae (α:=Ex) (qe ex A B ps L args):=by
 cases hlen:Nat.beq args.length ps.length with
 |false=>exact ae.fail.congr (fun st=>by unfold qe;rw [hlen];rfl)
 |true=>
  refine (ae.bind (hA (Ot ex ps args L)) (fun p:Ex × SL=>(?_:ae (match p.1 with|.normal=>(uv (B p.2)).bind (fun q=>M.pure q.1)|_=>M.fail)))).congr (fun st=>?_)
  ·split
   ·exact ae.bind (hB _) (fun q=>ae.pure _)
   ·exact ae.fail
  ·unfold qe
   rw [hlen,cond_true]
   unfold uv jg M.bind
   dsimp only
   cases A (Ot ex ps args L) st with
   |none=>rfl
   |some p=>
    obtain ⟨e,L1,au⟩:=p
    cases e with
    |normal=>
     dsimp only
     cases B L1 au<;>rfl
    |_=>rfl
theorem agr {P:Program} {ex:Nat} {A B:SL→St→Option XR} {B1:ee} {l nt:Nat} {rec:j6} {L0:SL} (hA:Ff P ex rec.assign A) (hB:Ff P ex rec.body B) (hps:rec.params.toList.all (fun t=>Nat.blt t nt)=true)
 (hs1:cr nt rec.assign=true) (hs2:cr nt rec.body=true) (hp1:rec.assign.mw=true) (hp2:rec.body.mw=true) (hw0:j8 ex L0) (hL0:∀ g h w,tt B1 g h w→cx g w nt L0 rec.tmps) :
 adn P l rec (qe ex A B rec.params.toList L0) B1:=by
 intro N args q g st w vs hlo hnr hc hargs hl hu hR
 unfold qe at hR
 cases hlen:Nat.beq args.length rec.params.toList.length with
 |false=>rw [hlen] at hR;cases hR
 |true=>
 rw [hlen,cond_true] at hR
 have hlen:=Nat.eq_of_beq_eq_true hlen
 have hvl:vs.length=args.length:=hargs.1
 have hsz:args.length=rec.params.size:=hlen.trans (Array.length_toList ..)
 have hy:=run_yield (P:=P) (args:=vs.toArray) hl (by show vs.toArray.size=rec.params.size;rw [List.size_toArray,hvl,hsz])
 refine ⟨_,_,_,_,hy,roundIn_of_wpIn trivial ?_⟩
 have hB2:=hc.rj st.nx (fun _=>False) (Nat.le_refl _) (far:=B1.far) (fun _ h=>h)
 have hrel:=Bt rec.params.toList args vs L0 rec.tmps hps hlen hargs (hL0 _ _ _ hc.base)
 have hput:=Qx ex rec.params.toList args L0 L0 hw0 (fun t=>.inl rfl)
 have hfold:(((rec.at none).params.zip vs.toArray).foldl (fun tmps (x:Tmp × Value)=>tmps.setIfInBounds x.1 x.2) (rec.at none).tmps)=((rec.params.toList.zip vs).foldl (fun t (x:Tmp × Value)=>t.setIfInBounds x.1 x.2) rec.tmps):=by
  rw [← Array.foldl_toList]
  simp [j6.at]
 cases hrA:A (Ot ex rec.params.toList args L0) st with
 |none=>rw [hrA] at hR;cases hR
 |some p=>
 obtain ⟨e1,L1,au⟩:=p
 rw [hrA] at hR
 simp only at hR
 have hlo1:=hA.low hrA hlo
 have hle1:=hA.le hrA hlo
 have hle2:(e1,L1,au).2.2.nx≤q.2.nx:=by
  cases e1 with
  |normal=>
   simp only at hR
   cases hrB:B L1 au with
   |none=>rw [hrB] at hR;cases hR
   |some p=>rw [hrB] at hR;cases hR;exact hB.le hrB hlo1
  |_=>cases hR
 have h1:=hA.wp (some l) N (fi g st.h w st.nx (fun _=>False) B1.far) nt (Nat.zero_le _) (.inr hp1) hs1 _ _ _ g w { tmps:=((rec.at none).params.zip vs.toArray).foldl (fun tmps (x:Tmp × Value)=>tmps.setIfInBounds x.1 x.2) (rec.at none).tmps,defers:=[] } hrA hput.2 hlo (hnr.sub (Nat.le_refl _) hle2) hB2
  (by show cx g w nt _ (((rec.at none).params.zip vs.toArray).foldl (fun tmps (x:Tmp × Value)=>tmps.setIfInBounds x.1 x.2) (rec.at none).tmps);rw [hfold];exact hrel.less hput.1) (Marks.nil _ _ _ _)
 refine wpIn_mono h1 ?_
 rintro exx a1 w1 ⟨e,L1',st1',g1,rfl,hq,hc1,hr1,hd1⟩
 cases hq
 cases e1 with
 |exit id=>cases hR
 |ret=>cases hR
 |normal=>
  simp only at hR
  cases hrB:B L1 au with
  |none=>rw [hrB] at hR;cases hR
  |some p=>
  obtain ⟨e3,L3,st3⟩:=p
  rw [hrB] at hR
  cases hR
  have hun:=hc1.base.wu (bg hl) hu (fun h=>h)
  have hl1:=hun.2.trans hl
  refine ⟨_,run_beginRound hl1 rfl,?_⟩
  have hw1:dz (fi g st.h w st.nx (· = l) B1.far) g1 au w1:=⟨hc1.ok,hc1.fresh,hc1.base.aj7 (fun _ h=>h.elim),hc1.ak⟩
  have hp2':=lq (r':={ rec.at none with state:=.busy }) hw1 hl1 hun.1 (.inl rfl)
  have hB3:=hp2'.1.rj st.nx (fun _=>False) hc1.ak (far:=B1.far) (fun _ h=>h)
  have hwi:j8 ex L1:=hA.within _ _ _ hrA hput.2
  have h2:=hB.wp (some l) N (fi g1 au.h (ec w1 l (.loop { rec.at none with state:=.busy })) st.nx (fun _=>False) B1.far) nt (Nat.zero_le _) (.inr hp2) hs2 _ _ _ g1 _ a1 hrB hwi hlo1 (hnr.sub hle1 (Nat.le_refl _)) hB3 (hr1.ext hp2'.2) (hd1.lq hl1)
  refine wpIn_mono h2 ?_
  rintro exx a3 w3 ⟨e,L3',st3',g3,rfl,hq3,hc3,hr3,hd3⟩
  cases hq3
  have hl2:(ec w1 l (.loop { rec.at none with state:=.busy })).heap[l]? = some (.loop { rec.at none with state:=.busy }):=dv _ (bg hl1)
  have hun3:=hc3.base.wu (bg hl2) hun.1 (fun h=>h)
  have hl3:=hun3.2.trans hl2
  have hc3':dz (fi g st.h w st.nx (· = l) B1.far) g3 st3 w3:=⟨hc3.ok,hc3.fresh,hp2'.1.base.comp hc3.base (Nat.le_refl _) (fun _ h=>h) (fun _ h=>h.elim),hc3.ak⟩
  cases e3 with
  |normal=>
   refine ⟨_,_,run_endRound none hl3,g3,rfl,(lq (r':=rec.at none) hc3' hl3 hun3.1 (.inl rfl)).1,dv _ (bg hl3),hun3.1⟩
  |ret=>
   refine ⟨_,_,run_endRound (some .ret) hl3,g3,rfl,(lq (r':=rec.at (some .ret)) hc3' hl3 hun3.1 (.inl rfl)).1,dv _ (bg hl3),hun3.1⟩
  |exit id=>
   refine ⟨_,_,run_endRound (some (.exit id)) hl3,g3,rfl,(lq (r':=rec.at (some (.exit id))) hc3' hl3 hun3.1 (.inl rfl)).1,dv _ (bg hl3),hun3.1⟩
def rh (X:St→Option re):M (Ex × Option Ex × SL):=fun st=>
 match X st with
 |some q=>some ((q.1,q.2.1,q.2.2.1),q.2.2.2)
 |none=>none
theorem Ds {X:St→Option re} {st:St} {q:re} (h:X st=some q):rh X st=some ((q.1,q.2.1,q.2.2.1),q.2.2.2):=by unfold rh;rw [h]
structure Kh (P:Program) (ex l:Nat) (rec:j6) (B:ee) (c:Code) (X:Option Ex→SL→St→Option re):Prop where
 within:∀ pe L st q,X pe L st=some q→j8 ex L→j8 ex q.2.2.1
 ia:∀ pe L,ae (rh (X pe L))
 wp:∀ (N nt:Nat),cr nt c=true→∀ pe L st q g w a,X pe L st=some q→j8 ex L→ou st→B.qw st.nx q.2.2.2.nx→dz B g st w→cx g w nt L a.tmps→a.defers=[]→w.heap[l]? = some (.loop (rec.at pe))→dx g st.h l →
  c.wpIn (ed none) N P (ta B nt l rec (fun e pe L st=>(e,pe,L,st)=q)) a w
theorem Yu {y:Nat} {o:Oper} {L:SL} {args:Array Operand} (h:Fg y o L=some args):∃ f ts,o.op = .call { callee:=.value f,args,argTypes:=ts }∧bf L f = .yl y:=by
 unfold Fg at h
 split at h
 ·rename_i f args' ts he
  split at h
  ·rename_i k hk
   by_cases e:k=y
   ·subst e
    rw [Nat.beq_refl,cond_true] at h
    cases h
    exact ⟨f,ts,he,hk⟩
   ·rw [ka e] at h;cases h
  ·cases h
 ·cases h
theorem anw {g w y v l} (h:Rel g w (.yl y) v) (hy:g.inj y=some (l,0)):v = .func (.yield l) #[] #[]:=by
 cases h with
 |yl o b base hi=>rw [hy] at hi;cases hi;rfl
theorem Nh {P:Program} {look:eg} {ops:Array Oper} {y:Nat} {R:RX} {t:Nat}:∀ (l:List Oper) (pe:Option Ex) (L:SL) (st:St) (p:Option Ex × SL × St),(n6 P ops l).run look y R pe L st=some p→(∀ o ∈ l,o.dst≠some t)→lk p.2.1 t=lk L t:=by
 intro l
 induction l with
 |nil=>intro pe L st p h _;cases h;rfl
 |cons o l ih=>
  intro pe L st p h hn
  change (match pz P look ops y R o pe L st with|some p=>(n6 P ops l).run look y R p.1 p.2.1 p.2.2|none=>none)=some p at h
  cases h1:pz P look ops y R o pe L st with
  |none=>rw [h1] at h;cases h
  |some q=>
   rw [h1] at h
   rw [ih _ _ _ p h (fun o ho=>hn o (by simp [ho]))]
   have hq:∃ v,q.2.1=fc o.dst v L:=by
    unfold pz at h1
    split at h1
    ·split at h1
     ·split at h1
      ·split at h1
       ·cases h1;exact ⟨_,rfl⟩
       ·cases h1
      ·cases h1
     ·split at h1
      ·cases h1;exact ⟨_,rfl⟩
      ·cases h1
    ·cases h1;exact ⟨_,rfl⟩
    ·cases h1
   obtain ⟨v,hv⟩:=hq
   rw [hv,Mz,if_neg (hn o (by simp))]
section iter
variable {P : Program} {look : eg} {ex l y : Nat} {rec : j6} {B : ee} {R : RX}
theorem Af (hl:g7 look) (hRf:∀ args,ae (α:=Ex) (R args)) (ops:Array Oper) (o:Oper) (pe:Option Ex) (L:SL):ae (jg (pz P look ops y R o pe L)):=by
 cases hg:tx ops L o with
 |none=>exact ae.fail.congr (fun st=>by unfold jg pz;rw [hg];rfl)
 |some b=>
  cases b with
  |false=>exact (ae.pure (pe,fc o.dst (.sc undef) L)).congr (fun st=>by unfold jg pz;rw [hg];rfl)
  |true=>
   cases hy:Fg y o L with
   |none=>
    refine (ae.bind (ve (u2 (P:=P) hl (o:=o) (ρ:=bf L))) (fun v=>ae.pure (pe,fc o.dst v L))).congr (fun st=>?_)
    unfold jg pz M.bind
    rw [hg,hy]
    dsimp only
    cases (jk P o).run look (bf L) st<;>rfl
   |some args=>
    cases pe with
    |some e=>exact ae.fail.congr (fun st=>by unfold jg pz;rw [hg,hy];rfl)
    |none=>
     refine (ae.bind (hRf (args.toList.map (bf L))) (fun e=>ae.pure (Hv e,fc o.dst (.sc (.bool (rq e))) L))).congr (fun st=>?_)
     unfold jg pz M.bind
     rw [hg,hy]
     dsimp only
     cases R (args.toList.map (bf L)) st<;>rfl
theorem Ch (hl:g7 look) (hRf:∀ args,ae (α:=Ex) (R args)) (ops:Array Oper):∀ (l:List Oper) (pe:Option Ex) (L:SL),ae (jg ((n6 P ops l).run look y R pe L)):=by
 intro l
 induction l with
 |nil=>intro pe L;exact ae.pure (pe,L)
 |cons o l ih=>
  intro pe L
  refine (ae.bind (Af (P:=P) (y:=y) hl hRf ops o pe L) (fun p=>ih p.1 p.2)).congr (fun st=>?_)
  show jg (fun st=>match pz P look ops y R o pe L st with
  |some p=>(n6 P ops l).run look y R p.1 p.2.1 p.2.2
  |none=>none) st=_
  unfold jg M.bind
  dsimp only
  cases pz P look ops y R o pe L st<;>rfl
theorem ab4 (hF:g7 look) (hRf:∀ args,ae (α:=Ex) (R args)) (hT:ll P (pc look)) (hR:adn P l rec R B) (hO:B.O l) (hy:y<B.ak∧B.pb y=some (l,0)) {ops:Array Oper} {N nt:Nat} {Q:Exit→Act→World→Prop} (hg:mq nt ops=true) (hd:qf nt ops=true) {q:Option Ex × SL × St}
 (hK:∀ g w (a:Act),dz B g q.2.2 w→cx g w nt q.2.1 a.tmps→a.defers=[]→w.heap[l]? = some (.loop (rec.at q.1))→dx g q.2.2.h l→Q .normal a w) :
 ∀ (ls:List Oper) (is:List Nat),(∀ o ∈ ls,o ∈ ops)→is.map (fun i=>ops[i]?)=ls.map some→∀ pe L st g w a,(n6 P ops ls).run look y R pe L st=some q→ou st→B.qw st.nx q.2.2.nx→dz B g st w→cx g w nt L a.tmps→a.defers=[] →
  w.heap[l]? = some (.loop (rec.at pe))→dx g st.h l→wpOpsIn (ed none) N P ops Q is a w:=by
 intro ls
 induction ls with
 |nil=>
  intro is _ his pe L st g w a h hlo hn hc hr hdf hl hu
  cases is with
  |nil=>cases h;exact hK g w a hc hr hdf hl hu
  |cons i is=>cases his
 |cons o ls ih=>
  intro is hmem his pe L st g w a h hlo hn hc hr hdf hl hu
  cases is with
  |nil=>cases his
  |cons i is=>
   simp only [List.map_cons,List.cons.injEq] at his
   obtain ⟨hi,his⟩:=his
   have ho:=hmem o (by simp)
   have hmem':∀ o ∈ ls,o ∈ ops:=fun o ho=>hmem o (by simp [ho])
   change (match pz P look ops y R o pe L st with|some p=>(n6 P ops ls).run look y R p.1 p.2.1 p.2.2|none=>none)=some q at h
   cases h1:pz P look ops y R o pe L st with
   |none=>rw [h1] at h;cases h
   |some p=>
   have hlo':ou p.2.2:=(Af (P:=P) (y:=y) hF hRf ops o pe L).low hlo (xa h1)
   have hle1:st.nx≤p.2.2.nx:=(Af (P:=P) (y:=y) hF hRf ops o pe L st _ _ hlo (xa h1)).1
   rw [h1] at h
   simp only at h
   have hle2:p.2.2.nx≤q.2.2.nx:=(Ch (P:=P) (y:=y) hF hRf ops ls p.1 p.2.1 _ _ _ hlo' (xa h)).1
   simp only [wpOpsIn,hi]
   unfold pz at h1
   cases hb:tx ops L o with
   |none=>rw [hb] at h1;cases h1
   |some b=>
   rw [hb] at h1
   have hw:Region.wanted o (yielded ops a.tmps)=b:=Ec hr.1 (Aa hg ho) (fun j c _=>hr.2 _) hb
   rw [hw]
   cases b with
   |true=>
    rw [if_pos rfl]
    simp only at h1
    cases hyl:Fg y o L with
    |none=>
     rw [hyl] at h1
     simp only at h1
     rw [Eb,Kx] at h1
     cases hop:dh P (pc look) o (bf L) st with
     |none=>rw [hop] at h1;cases h1
     |some r=>
      obtain ⟨v,st'⟩:=r
      rw [hop] at h1
      cases h1
      refine An hT hc.ok (hc.free (hn.sub (Nat.le_refl _) hle2)) hlo hr.eval hop none N _ _ ?_
      rintro u w' ⟨g',q1,q2,q3⟩
      have hun:=dx.step q1 (bg hl) hu
      exact ih is hmem' his pe _ st' g' w' _ h hlo' (hn.sub hle1 (Nat.le_refl _)) (hc.step (hn.sub (Nat.le_refl _) hle2) ⟨tv hop,q1⟩ q2) ((hr.ext q1.ext).put q3 (ql hd ho)) (by rw [put_defers];exact hdf) (hun.2.trans hl) hun.1
    |some args=>
     rw [hyl] at h1
     simp only at h1
     cases pe with
     |some e=>cases h1
     |none=>
     simp only at h1
     cases hrr:R (args.toList.map (bf L)) st with
     |none=>rw [hrr] at h1;cases h1
     |some r=>
     rw [hrr] at h1
     cases h1
     obtain ⟨f,ts,he,hev⟩:=Yu hyl
     have hfv:a.eval f = .func (.yield l) #[] #[]:=by
      have:=hr.eval f
      rw [hev] at this
      exact anw this ((hc.base.pins y (.inl hy.1)).trans hy.2)
     have hargs:=hr.eval.list args.toList
     obtain ⟨fn,tmps,asg,body,hrun,hround⟩:=hR (N - 1) _ _ _ _ _ _ hlo (hn.sub (Nat.le_refl _) hle2) hc hargs hl hu hrr
     refine ⟨jt none P o a w,?_⟩
     rw [Oper.semAt_eq _ _ _ (xw he),Q9 he hfv,show args.map a.eval=(args.toList.map a.eval).toArray from (by apply Array.ext';simp),hrun]
     refine ⟨(fun h=>(by cases h)),hround.mono ?_⟩
     rintro e w' ⟨g',rfl,hc',hl',hu'⟩
     have hext:=hc'.base.Cj hc.fresh
     have hcB:dz B g' r.2 w':=⟨hc'.ok,hc'.fresh,hc.base.comp hc'.base hc.ak (fun _ h=>h) (fun n hn=>by subst hn;exact .inr hO),Nat.le_trans hc.ak hc'.ak⟩
     have hr':=(hr.ext hext).put (.sc (.bool (rq r.1))) (ql hd ho)
     show wpOpsIn (ed none) N P ops Q is (a.put o.dst (.bool (rq r.1))) w'
     exact ih is hmem' his _ _ r.2 g' w' _ h hlo' (hn.sub hle1 (Nat.le_refl _)) hcB hr' (by rw [put_defers];exact hdf) hl' hu'
   |false=>
    simp only at h1
    cases h1
    rw [if_neg (by simp)]
    refine ⟨jt none P o a w,?_⟩
    exact ih is hmem' his pe _ st g w _ h hlo hn hc (hr.put (.sc _) (ql hd ho)) (by rw [put_defers];exact hdf) hl hu
theorem yr {B:Option Ex→SL→St→Option re} {r:Option re} {q:re} (h:Aw B r=some q):(∃ pe L st,r=some (.normal,pe,L,st)∧B pe L st=some q)∨(r=some q∧q.1 ≠ .normal):=by
 unfold Aw at h
 cases r with
 |none=>cases h
 |some p=>
  obtain ⟨e,pe,L,st⟩:=p
  simp only at h
  cases e with
  |normal=>exact .inl ⟨pe,L,st,rfl,h⟩
  |exit id=>cases h;exact .inr ⟨rfl,fun h=>by cases h⟩
  |ret=>cases h;exact .inr ⟨rfl,fun h=>by cases h⟩
theorem Hh {X:St→Option re} {B:Option Ex→SL→St→Option re} (hX:ae (rh X)) (hB:∀ pe L,ae (rh (B pe L))):ae (rh fun st=>Aw B (X st)):=by
 refine (ae.bind hX (fun p:Ex × Option Ex × SL=>(?_:ae (match p.1 with|.normal=>rh (B p.2.1 p.2.2)|e=>M.pure (e,p.2))))).congr (fun st=>?_)
 ·split
  ·exact hB _ _
  ·exact ae.pure _
 ·unfold rh M.bind Aw
  dsimp only
  cases X st with
  |none=>rfl
  |some q=>
   obtain ⟨e,pe,L,au⟩:=q
   cases e<;>rfl
theorem Ad {X:Option Ex→SL→St→Option re} (h:∀ pe L,ae (rh (X pe L))):∀ (n:Nat) (pe:Option Ex) (L:SL),ae (rh (Ml X n pe L))
 |0,_pe,_L=>ae.fail.congr (fun _st=>rfl)
 |n+1,pe,L=>(Hh (h pe (ld L 0)) (Ad h n)).congr (fun _st=>rfl)
theorem Kh.le {c:Code} {X:Option Ex→SL→St→Option re} (h:Kh P ex l rec B c X) {pe:Option Ex} {L:SL} {st:St} {q:re} (hx:X pe L st=some q) (hl:ou st):st.nx≤q.2.2.2.nx:=(h.ia pe L st _ _ hl (Ds hx)).1
theorem Kh.low {c:Code} {X:Option Ex→SL→St→Option re} (h:Kh P ex l rec B c X) {pe:Option Ex} {L:SL} {st:St} {q:re} (hx:X pe L st=some q) (hl:ou st):ou q.2.2.2:=(h.ia pe L).low hl (Ds hx)
theorem ajz {c:Code} {X:Option Ex→SL→St→Option re} (h:Kh P ex l rec B c X) (n:Nat):Kh P ex l rec B (.loop c) (Ml X n):=by
 have hw':∀ L,j8 ex L→j8 ex (ld L 0):=fun L hw t ht=>by rw [yx];exact hw t ht
 refine ⟨?_,Ad h.ia n,?_⟩
 ·induction n with
  |zero=>intro pe L st q hx;cases hx
  |succ n ih=>
   intro pe L st q hx hw
   change Aw (Ml X n) (X pe (ld L 0) st)=some q at hx
   rcases yr hx with ⟨pe1,L1,au,h1,h2⟩|⟨h1,_⟩
   ·exact ih _ _ _ _ h2 (h.within _ _ _ _ h1 (hw' L hw))
   ·exact h.within _ _ _ _ h1 (hw' L hw)
 ·intro N nt hs pe L st q g w a hx hw hlo hnr hc hr hd hl hu
  refine qy fun Y hY=>?_
  induction n generalizing pe L st g w a with
  |zero=>cases hx
  |succ n ih=>
   change Aw (Ml X n) (X pe (ld L 0) st)=some q at hx
   have hr':cx g w nt (ld L 0) a.tmps:=⟨hr.1,fun t=>by rw [yx];exact hr.2 t⟩
   rcases yr hx with ⟨pe1,L1,au,h1,h2⟩|⟨h1,h2⟩
   ·have hlo1:=h.low h1 hlo
    have hle1:=h.le h1 hlo
    have hle2:au.nx≤q.2.2.2.nx:=(Ad h.ia n pe1 L1 au _ _ hlo1 (Ds h2)).1
    refine hY a w (wpIn_mono (h.wp N nt hs _ _ _ _ g w a h1 (hw' L hw) hlo (hnr.sub (Nat.le_refl _) hle2) hc hr' hd hl hu) ?_)
    rintro exx a1 w1 ⟨e1,pe1',L1',st1',g1,rfl,he,hc1,hr1,hd1,hl1,hu1⟩
    cases he
    exact ih pe1 L1 au g1 w1 a1 h2 (h.within _ _ _ _ h1 (hw' L hw)) hlo1 (hnr.sub hle1 (Nat.le_refl _)) hc1 hr1 hd1 hl1 hu1
   ·refine hY a w (wpIn_mono (h.wp N nt hs _ _ _ _ g w a h1 (hw' L hw) hlo hnr hc hr' hd hl hu) ?_)
    rintro exx a1 w1 ⟨e1,pe1,L1,au,g1,rfl,he,hc1,hr1,hd1,hl1,hu1⟩
    subst he
    cases e1 with
    |normal=>exact (h2 rfl).elim
    |exit id=>exact ⟨.exit id,pe1,L1,au,g1,rfl,rfl,hc1,hr1,hd1,hl1,hu1⟩
    |ret=>exact ⟨.ret,pe1,L1,au,g1,rfl,rfl,hc1,hr1,hd1,hl1,hu1⟩
theorem Ux (hT:ll P (pc look)) (hlk:g7 look) (hRf:∀ args,ae (α:=Ex) (R args)) (hm:P.follows .mixedOrders=true) (hR:adn P l rec R B) (hO:B.O l) (hy:y<B.ak∧B.pb y=some (l,0)) (n:Nat):∀ c:Code,Kh P ex l rec B c ((jw P ex c).run look n y R):=by
 intro c
 induction c with
 |skip=>exact ⟨fun pe L st q h hw=>by cases h;exact hw,fun pe L=>ae.pure (Ex.normal,pe,L),fun N nt _ pe L st q g w a h hw hlo hnr hc hr hd hl hu=>by cases h;exact wpIn_skip (ta.mk' (e:=.normal) rfl hc hr hd hl hu)⟩
 |label k=>exact ⟨fun pe L st q h hw=>by cases h;exact hw,fun pe L=>ae.pure (Ex.normal,pe,L),fun N nt _ pe L st q g w a h hw hlo hnr hc hr hd hl hu=>by cases h;exact wpIn_label (ta.mk' (e:=.normal) rfl hc hr hd hl hu)⟩
 |exit id=>exact ⟨fun pe L st q h hw=>by cases h;exact hw,fun pe L=>ae.pure (Ex.exit id,pe,L),fun N nt _ pe L st q g w a h hw hlo hnr hc hr hd hl hu=>by cases h;exact wpIn_exit (ta.mk' (e:=.exit id) rfl hc hr hd hl hu)⟩
 |ret=>exact ⟨fun pe L st q h hw=>by cases h;exact hw,fun pe L=>ae.pure (Ex.ret,pe,L),fun N nt _ pe L st q g w a h hw hlo hnr hc hr hd hl hu=>by cases h;exact wpIn_ret (ta.mk' (e:=.ret) rfl hc hr hd hl hu)⟩
 |region id ops draw=>
  cases draw with
  |false=>
   have key:∀ pe L st q,(jw P ex (.region id ops false)).run look n y R pe L st=some q→∃ p,(n6 P ops ops.toList).run look y R pe L st=some p∧q=(.normal,p.1,m4 (kr ex ops) p.2.1 L,p.2.2):=by
    intro pe L st q h
    change (match (n6 P ops ops.toList).run look y R pe L st with
     |some p=>some (Ex.normal,p.1,m4 (kr ex ops) p.2.1 L,p.2.2)
     |none=>none)=some q at h
    cases h1:(n6 P ops ops.toList).run look y R pe L st with
    |none=>rw [h1] at h;cases h
    |some p=>rw [h1] at h;cases h;exact ⟨p,rfl,rfl⟩
   refine ⟨fun pe L st q h hw=>?_,?_,fun N nt hs pe L st q g w a h hw hlo hnr hc hr hd hl hu=>?_⟩
   ·obtain ⟨p,h1,rfl⟩:=key pe L st q h
    exact (xg hw (fun t ht=>Nh (t:=t) _ _ _ _ _ h1 ht)).2
   ·intro pe L
    refine (ae.bind (Ch (P:=P) (y:=y) hlk hRf ops ops.toList pe L) (fun p=>ae.pure (Ex.normal,p.1,m4 (kr ex ops) p.2 L))).congr (fun st=>?_)
    show rh (fun st=>match (n6 P ops ops.toList).run look y R pe L st with
     |some p=>some (Ex.normal,p.1,m4 (kr ex ops) p.2.1 L,p.2.2)
     |none=>none) st=_
    unfold rh jg M.bind
    dsimp only
    cases (n6 P ops ops.toList).run look y R pe L st<;>rfl
   ·obtain ⟨p,h1,rfl⟩:=key pe L st q h
    have hls:=xg hw (fun t ht=>Nh (t:=t) _ _ _ _ _ h1 ht)
    simp only [cr,Bool.and_eq_true] at hs
    exact wpIn_region (ab4 hlk hRf hT hR hO hy hs.2 hs.1 (fun g w a hc hr hd hl hu=>ta.mk' (e:=.normal) rfl hc (hr.less hls.1) hd hl hu) ops.toList _ (by simp) (A3 ops) pe L st g w a h1 hlo hnr hc hr hd hl hu)
  |true=>
   have key:∀ pe L st q,(jw P ex (.region id ops true)).run look n y R pe L st=some q→∃ p,(xe P ex ops true).run look n L st=some p∧q=(p.1,pe,p.2.1,p.2.2):=by
    intro pe L st q h
    change (match (xe P ex ops true).run look n L st with
     |some q=>some (q.1,pe,q.2.1,q.2.2)
     |none=>none)=some q at h
    cases h1:(xe P ex ops true).run look n L st with
    |none=>rw [h1] at h;cases h
    |some p=>rw [h1] at h;cases h;exact ⟨p,rfl,rfl⟩
   refine ⟨fun pe L st q h hw=>?_,?_,fun N nt hs pe L st q g w a h hw hlo hnr hc hr hd hl hu=>?_⟩
   ·obtain ⟨p,h1,rfl⟩:=key pe L st q h
    exact (vk h1 hw).2.1
   ·intro pe L
    refine (ae.bind (Ha (P:=P) hlk ex ops true n L) (fun p=>ae.pure (p.1,pe,p.2))).congr (fun st=>?_)
    show rh (fun st=>match (xe P ex ops true).run look n L st with
     |some q=>some (q.1,pe,q.2.1,q.2.2)
     |none=>none) st=_
    unfold rh uv jg M.bind
    dsimp only
    cases (xe P ex ops true).run look n L st<;>rfl
   ·obtain ⟨p,h1,rfl⟩:=key pe L st q h
    have e1:=(vk h1 hw).1
    have hc0:=hc.rj B.ak (fun _=>False) hc.ak (far:=B.far) (fun _ h=>h)
    refine Ve hT hlk hm (B:=fi g st.h w B.ak (fun _=>False) B.far) hs h1 hw hlo hnr hc0 hr (by rw [hd];exact Marks.nil _ _ _ _) (fun g' w' a' hc' hr' _ hdd=>?_)
    have hun:=hc'.base.wu (bg hl) hu (fun h=>h)
    exact ta.mk' (e:=.normal) (by rw [e1]) ⟨hc'.ok,hc'.fresh,hc.base.comp hc'.base (Nat.le_refl _) (fun _ h=>h) (fun _ h=>h.elim),hc'.ak⟩ hr' ((hdd rfl).trans hd) (hun.2.trans hl) hun.1
 |seq x z ihx ihy=>
  refine ⟨fun pe L st q h hw=>?_,?_,fun N nt hs pe L st q g w a h hw hlo hnr hc hr hd hl hu=>?_⟩
  ·rcases yr h with ⟨pe1,L1,au,h1,h2⟩|⟨h1,_⟩
   ·exact ihy.within _ _ _ _ h2 (ihx.within _ _ _ _ h1 hw)
   ·exact ihx.within _ _ _ _ h1 hw
  ·intro pe L;exact (Hh (ihx.ia pe L) ihy.ia).congr (fun st=>rfl)
  ·simp only [cr,Bool.and_eq_true] at hs
   refine wpIn_seq ?_
   rcases yr h with ⟨pe1,L1,au,h1,h2⟩|⟨h1,h2⟩
   ·have hlo1:=ihx.low h1 hlo
    have hle1:=ihx.le h1 hlo
    have hle2:=ihy.le h2 hlo1
    refine wpIn_mono (ihx.wp N nt hs.1 _ _ _ _ g w a h1 hw hlo (hnr.sub (Nat.le_refl _) hle2) hc hr hd hl hu) ?_
    rintro exx a1 w1 ⟨e1,pe1',L1',st1',g1,rfl,he,hc1,hr1,hd1,hl1,hu1⟩
    cases he
    exact ihy.wp N nt hs.2 _ _ _ _ g1 w1 a1 h2 (ihx.within _ _ _ _ h1 hw) hlo1 (hnr.sub hle1 (Nat.le_refl _)) hc1 hr1 hd1 hl1 hu1
   ·refine wpIn_mono (ihx.wp N nt hs.1 _ _ _ _ g w a h1 hw hlo hnr hc hr hd hl hu) ?_
    rintro exx a1 w1 ⟨e1,pe1,L1,au,g1,rfl,he,hc1,hr1,hd1,hl1,hu1⟩
    subst he
    cases e1 with
    |normal=>exact (h2 rfl).elim
    |exit id=>exact ⟨.exit id,pe1,L1,au,g1,rfl,rfl,hc1,hr1,hd1,hl1,hu1⟩
    |ret=>exact ⟨.ret,pe1,L1,au,g1,rfl,rfl,hc1,hr1,hd1,hl1,hu1⟩
 |cond c x z ihx ihy=>
  have key:∀ pe L st q,(jw P ex (.cond c x z)).run look n y R pe L st=some q→∃ v,(bf L c).bool=some v∧(v=true→(jw P ex x).run look n y R pe L st=some q)∧(v=false→(jw P ex z).run look n y R pe L st=some q):=by
   intro pe L st q h
   change (match (bf L c).bool with
    |some b=>bif b then (jw P ex x).run look n y R pe L st else (jw P ex z).run look n y R pe L st
    |none=>none)=some q at h
   cases hb:(bf L c).bool with
   |none=>rw [hb] at h;cases h
   |some v=>
    rw [hb] at h
    exact ⟨v,rfl,fun e=>by subst e;exact h,fun e=>by subst e;exact h⟩
  refine ⟨fun pe L st q h hw=>?_,?_,fun N nt hs pe L st q g w a h hw hlo hnr hc hr hd hl hu=>?_⟩
  ·obtain ⟨v,_,h1,h2⟩:=key pe L st q h
   cases v with
   |true=>exact ihx.within _ _ _ _ (h1 rfl) hw
   |false=>exact ihy.within _ _ _ _ (h2 rfl) hw
  ·intro pe L
   cases hb:(bf L c).bool with
   |none=>
    refine ae.fail.congr (fun st=>?_)
    show rh (fun st=>match (bf L c).bool with|some b=>_|none=>none) st=_
    unfold rh;rw [hb];rfl
   |some v=>
    cases v with
    |true=>
     refine (ihx.ia pe L).congr (fun st=>?_)
     show rh (fun st=>match (bf L c).bool with
      |some b=>bif b then (jw P ex x).run look n y R pe L st else (jw P ex z).run look n y R pe L st
      |none=>none) st=_
     unfold rh;rw [hb];rfl
    |false=>
     refine (ihy.ia pe L).congr (fun st=>?_)
     show rh (fun st=>match (bf L c).bool with
      |some b=>bif b then (jw P ex x).run look n y R pe L st else (jw P ex z).run look n y R pe L st
      |none=>none) st=_
     unfold rh;rw [hb];rfl
  ·obtain ⟨v,hv,h1,h2⟩:=key pe L st q h
   simp only [cr,Bool.and_eq_true] at hs
   have hev:=yt (hr.eval c) hv
   cases v with
   |true=>exact wpIn_cond_true hev (ihx.wp N nt hs.1 _ _ _ _ g w a (h1 rfl) hw hlo hnr hc hr hd hl hu)
   |false=>exact wpIn_cond_false hev (ihy.wp N nt hs.2 _ _ _ _ g w a (h2 rfl) hw hlo hnr hc hr hd hl hu)
 |block id x ih=>
  have key:∀ pe L st q,(jw P ex (.block id x)).run look n y R pe L st=some q→∃ p,(jw P ex x).run look n y R pe L st=some p∧q=(yg id p.1,p.2):=by
   intro pe L st q h
   change (match (jw P ex x).run look n y R pe L st with
    |some p=>some (yg id p.1,p.2)
    |none=>none)=some q at h
   cases h1:(jw P ex x).run look n y R pe L st with
   |none=>rw [h1] at h;cases h
   |some p=>rw [h1] at h;cases h;exact ⟨p,rfl,rfl⟩
  refine ⟨fun pe L st q h hw=>?_,?_,fun N nt hs pe L st q g w a h hw hlo hnr hc hr hd hl hu=>?_⟩
  ·obtain ⟨p,h1,rfl⟩:=key pe L st q h
   have:=ih.within pe L st p h1 hw
   exact this
  ·intro pe L
   refine (ae.bind (ih.ia pe L) (fun p=>ae.pure (yg id p.1,p.2))).congr (fun st=>?_)
   show rh (fun st=>match (jw P ex x).run look n y R pe L st with
    |some p=>some (yg id p.1,p.2)
    |none=>none) st=_
   unfold rh M.bind
   dsimp only
   cases (jw P ex x).run look n y R pe L st<;>rfl
  ·obtain ⟨p,h1,rfl⟩:=key pe L st q h
   refine wpIn_block (wpIn_mono (ih.wp N nt hs _ _ _ _ g w a h1 hw hlo hnr hc hr hd hl hu) ?_)
   rintro exx a1 w1 ⟨e1,pe1,L1,au,g1,rfl,he,hc1,hr1,hd1,hl1,hu1⟩
   subst he
   cases e1 with
   |normal=>exact ⟨.normal,pe1,L1,au,g1,rfl,rfl,hc1,hr1,hd1,hl1,hu1⟩
   |ret=>exact ⟨.ret,pe1,L1,au,g1,rfl,rfl,hc1,hr1,hd1,hl1,hu1⟩
   |exit j=>
    simp only [yg]
    by_cases e:j=id
    ·subst e
     simp only [Nat.beq_refl,cond_true]
     simp only [qm,Exit.inBlock,if_true]
     exact ⟨.normal,pe1,L1,au,g1,rfl,rfl,hc1,hr1,hd1,hl1,hu1⟩
    ·rw [ka e,cond_false]
     simp only [qm,Exit.inBlock,if_neg e]
     exact ⟨.exit j,pe1,L1,au,g1,rfl,rfl,hc1,hr1,hd1,hl1,hu1⟩
 |loop x ih=>exact ajz ih n
 |scope x ih=>exact ⟨fun pe L st q h=>(by cases h),fun pe L=>ae.fail,fun N nt _ pe L st q g w a h=>(by cases h)⟩
 |rangeFunc f ps asg body _ _=>exact ⟨fun pe L st q h=>(by cases h),fun pe L=>ae.fail,fun N nt _ pe L st q g w a h=>(by cases h)⟩
 |goto k=>exact ⟨fun pe L st q h=>(by cases h),fun pe L=>ae.fail,fun N nt _ pe L st q g w a h=>(by cases h)⟩
 |refuse why=>exact ⟨fun pe L st q h=>(by cases h),fun pe L=>ae.fail,fun N nt _ pe L st q g w a h=>(by cases h)⟩
end iter
theorem agj {g h w} {o b base:Nat} (hok:Ok g h w) (hid:g.inj o=none) (hno:h.get o=none):Step g h w o (o+1) (g.with o b base) h w∧Ok (g.with o b base) h w:=by
 have hne:∀ p q,g.inj p=some q→p≠o:=fun p q hp e=>by rw [e,hid] at hp;cases hp
 have hext:Ext g w (g.with o b base) w:=⟨rfl,fun p q hp=>(Gh.ek (hne p q hp)).trans hp,fun _ _ h=>h,fun _ _ _=>rfl,fun c cs e fr h=>⟨cs,fr,h,rfl⟩,fun c l h=>⟨l,h⟩⟩
 have hinj:∀ p x,h.get p=some x→(g.with o b base).inj p=g.inj p:=fun p x hx=>Gh.ek (fun e=>by rw [e,hno] at hx;cases hx)
 refine ⟨⟨hext,Nat.le_refl _,rfl,rfl,rfl,fun _ _ _=>rfl,fun p hp hr=>?_,fun p c bs hp hi=>?_,fun _ _ h=>.inl h⟩,⟨hok.size,fun p x hx=>?_,fun p p' x x' c bs bs' hpp hx hx' h1 h2=>?_,hok.K⟩⟩
 ·rw [Gh.ek (fun e=>hr (by omega))];exact hp
 ·obtain ⟨x,hx⟩:=Option.isSome_iff_exists.1 hp
  rw [hinj p x hx] at hi
  exact .inr ⟨p,bs,hp,hi⟩
 ·refine (hok.kn p x hx).imp (fun q=>⟨by rw [hinj p x hx];exact q.1,q.2⟩) ?_
  rintro ⟨c,bs,h1,h2,h3⟩
  exact ⟨c,bs,by rw [hinj p x hx];exact h1,h2,h3.ext hext rfl (fun _ hk=>hk)⟩
 ·rw [hinj p x hx] at h1
  rw [hinj p' x' hx'] at h2
  exact hok.sep p p' x x' c bs bs' hpp hx hx' h1 h2
theorem O3:ae Z4:=fun st a au hl h=>by
 cases h
 refine ⟨Nat.le_succ _,[],[st.nx],rfl,rfl,(fun o ho=>by simp at ho;subst ho;exact Nat.lt_succ_self _),(fun o h1 h2=>by simp at h2 ⊢;omega),(fun _ _=>rfl),fun h' rl' wl' hl' _=>⟨h',rfl,fun o=>?_⟩⟩
 by_cases e:o ∈ [st.nx]
 ·rw [if_pos e]
  simp at e
  subst e
  cases h1:h'.get st.nx with
  |some x=>exact absurd (hl' _ x h1) (Nat.lt_irrefl _)
  |none=>
   cases h2:st.h.get st.nx with
   |some x=>exact absurd (hl _ x h2) (Nat.lt_irrefl _)
   |none=>rfl
 ·rw [if_neg e]
theorem agv {P:Program} {look:eg} (hT:ll P (pc look)) (hlk:g7 look) (hm:P.follows .mixedOrders=true) (ex n:Nat) (f:Operand) (ps:Array Tmp) (asg body:Code) {A B':SL→St→Option XR} (hA:Ff P ex asg A) (hB:Ff P ex body B') :
 Ff P ex (.rangeFunc f ps asg body) (qd P ex look n f ps.toList A B'):=by
 have key:∀ L st q,qd P ex look n f ps.toList A B' L st=some q→∃ gf caps nt code,tf (bf L f)=some (gf,caps)∧xq P gf=some (nt,code)∧caps.length+1≤nt ∧
  ∃ e pe L1 au,(jw P (l7 code 0) code).run look n st.nx (qe ex A B' ps.toList L) none (qa (l7 code 0) (cg 0 (.yl st.nx::caps))) { h:=st.h,nx:=st.nx+1,rl:=st.rl,wl:=st.nx::st.wl }=some (e,pe,L1,au) ∧
   (∀ i,e ≠ .exit i)∧q=(match pe with|none=>(.normal,L,au)|some e=>(e,L,au)):=by
  intro L st q h
  unfold qd at h
  cases hf:tf (bf L f) with
  |none=>rw [hf] at h;cases h
  |some r=>
  obtain ⟨gf,caps⟩:=r
  rw [hf] at h
  simp only at h
  cases hb:xq P gf with
  |none=>
   have:vn P gf=⟨false,0,fun _ _ _ _ _ _=>none⟩:=by unfold vn;rw [hb]
   rw [this] at h
   cases h
  |some r=>
  obtain ⟨nt,code⟩:=r
  have hix:vn P gf=⟨true,nt,fun look n y R args st=>(jw P (l7 code 0) code).run look n y R none (qa (l7 code 0) (cg 0 args)) st⟩:=by unfold vn;rw [hb]
  rw [hix] at h
  simp only [Bool.true_and] at h
  cases hle:Nat.ble (caps.length+1) nt with
  |false=>rw [hle] at h;cases h
  |true=>
  rw [hle,cond_true] at h
  refine ⟨gf,caps,nt,code,rfl,hb,Nat.le_of_ble_eq_true hle,?_⟩
  cases hrun:(jw P (l7 code 0) code).run look n st.nx (qe ex A B' ps.toList L) none (qa (l7 code 0) (cg 0 (.yl st.nx::caps))) { h:=st.h,nx:=st.nx+1,rl:=st.rl,wl:=st.nx::st.wl } with
  |none=>rw [hrun] at h;cases h
  |some r=>
  obtain ⟨e,pe,L1,au⟩:=r
  rw [hrun] at h
  refine ⟨e,pe,L1,au,rfl,?_⟩
  cases e with
  |exit i=>cases h
  |normal=>
   refine ⟨(fun i hi=>by cases hi),?_⟩
   cases pe <;> · cases h;rfl
  |ret=>
   refine ⟨(fun i hi=>by cases hi),?_⟩
   cases pe <;> · cases h;rfl
 have hRf:∀ L args,ae (α:=Ex) (qe ex A B' ps.toList L args):=fun L args=>Sv hA.ia hB.ia ps.toList L args
 have hpf:∀ (code:Code) (L:SL) (y:Nat) (L1:SL),ae (rh ((jw P (l7 code 0) code).run look n y (qe ex A B' ps.toList L) none L1)):=fun code L y L1=>by
  refine (Ux (l:=0) (rec:={ fn:=0,tmps:=#[],params:=#[],assign:=.skip,body:=.skip,defers:=0 }) (B:={ b0:=0,w:=default,K:=fun _ _=>True,O:=fun _=>True,ak:=y+1,pb:=fun _=>some (0,0),n0:=0 }) hT hlk (hRf L) hm ?_ trivial ⟨Nat.lt_succ_self _,rfl⟩ n code).ia none L1
  intro N args q g st w vs hlo hnr hc
  have:=hc.ok.K w.heap.size 0 (hc.base.K _ _ trivial)
  exact absurd this (Nat.lt_irrefl _)
 refine ⟨fun L st q h hw=>?_,fun L=>?_,fun ro N B nt hn0 hpl hs L st q g w a h hw hlo hnr hc hr hd=>?_⟩
 ·obtain ⟨_,_,_,_,_,_,_,e,pe,L1,au,_,_,rfl⟩:=key L st q h
  cases pe<;>exact hw
 ·cases hf:tf (bf L f) with
  |none=>exact ae.fail.congr (fun st=>by show jg (qd P ex look n f ps.toList A B' L) st=_;unfold jg qd;rw [hf];rfl)
  |some r=>
  obtain ⟨gf,caps⟩:=r
  cases hb:xq P gf with
  |none=>
   have:vn P gf=⟨false,0,fun _ _ _ _ _ _=>none⟩:=by unfold vn;rw [hb]
   exact ae.fail.congr (fun st=>by show jg (qd P ex look n f ps.toList A B' L) st=_;unfold jg qd;rw [hf];dsimp only;rw [this];rfl)
  |some r=>
  obtain ⟨nt,code⟩:=r
  have hix:vn P gf=⟨true,nt,fun look n y R args st=>(jw P (l7 code 0) code).run look n y R none (qa (l7 code 0) (cg 0 args)) st⟩:=by unfold vn;rw [hb]
  cases hle:Nat.ble (caps.length+1) nt with
  |false=>exact ae.fail.congr (fun st=>by show jg (qd P ex look n f ps.toList A B' L) st=_;unfold jg qd;rw [hf];dsimp only;rw [hix];dsimp only;rw [hle];rfl)
  |true=>
   refine (ae.bind O3 (fun y=>ae.bind (hpf code L y (qa (l7 code 0) (cg 0 (.yl y::caps)))) (fun p:Ex × Option Ex × SL=>(?_:ae (match p.1 with
    |.exit _=>M.fail
    |_=>match p.2.1 with
     |none=>M.pure (Ex.normal,L)
     |some e=>M.pure (e,L)))))).congr (fun st=>?_)
   ·split
    ·exact ae.fail
    ·split<;>exact ae.pure _
   ·show jg (qd P ex look n f ps.toList A B' L) st=_
    unfold jg qd
    rw [hf]
    dsimp only
    rw [hix]
    dsimp only
    rw [hle]
    unfold M.bind Z4 rh
    dsimp only [Bool.and_self,cond_true]
    cases (jw P (l7 code 0) code).run look n st.nx (qe ex A B' ps.toList L) none (qa (l7 code 0) (cg 0 (.yl st.nx::caps))) { h:=st.h,nx:=st.nx+1,rl:=st.rl,wl:=st.nx::st.wl } with
    |none=>rfl
    |some q=>
     obtain ⟨e,pe,L1,au⟩:=q
     cases e with
     |exit i=>rfl
     |normal=>cases pe<;>rfl
     |ret=>cases pe<;>rfl
 obtain ⟨gf,caps,nt',code,hfn,hib,hle,e0,pe0,L1,au,hrun,hne,hq⟩:=key L st q h
 have hro:ro=none:=by
  rcases hpl with hpl|hpl
  ·exact hpl
  ·cases hpl
 subst hro
 simp only [cr,Bool.and_eq_true] at hs
 obtain ⟨⟨⟨⟨hs1,hs2⟩,hs3⟩,hs4⟩,hs5⟩:=hs
 obtain ⟨fn,hf1,hf2,hf3,hf4,hf5,rfl⟩:=Nb hib
 obtain ⟨vb,hev,hcaps⟩:=Ju hfn (hr.eval f)
 refine wpIn_rangeFunc fun fno hfno=>?_
 obtain ⟨rec,hrec⟩:∃ rec:j6,rec = { fn:=fno,tmps:=a.tmps,params:=ps,assign:=asg,body:=body,defers:=w.heap.size }:=⟨_,rfl⟩
 obtain ⟨W1,hW1⟩:∃ W1,(w.alloc (.deferred (some []))).alloc (.loop (rec.at none))=W1:=⟨_,rfl⟩
 have hsz:W1.heap.size=w.heap.size+2:=by rw [← hW1];simp
 have hold:∀ b,b<w.heap.size→W1.heap[b]? = w.heap[b]? := fun b hb=>by
  rw [← hW1,RowKit.Below.heap_alloc _ _ _ (by simp;omega)];exact RowKit.Below.heap_alloc w _ _ hb
 have hL1:W1.heap[w.heap.size+1]? = some (.loop (rec.at none)):=by
  rw [← hW1];have:=World.alloc_heap_new (w.alloc (.deferred (some []))) (.loop (rec.at none));rwa [World.size_alloc] at this
 have hD1:W1.heap[w.heap.size]? = some (.deferred (some [])):=by
  rw [← hW1];exact (RowKit.Below.heap_alloc _ _ _ (by simp)).trans (World.alloc_heap_new w _)
 have hlo2:ou { h:=st.h,nx:=st.nx+1,rl:=st.rl,wl:=st.nx::st.wl }:=fun o x hx=>Nat.lt_succ_of_lt (hlo o x hx)
 have hle2:st.nx+1≤au.nx:=(hpf code L st.nx _ _ _ _ hlo2 (Ds hrun)).1
 have hq2:q.2.2=au:=by rw [hq];cases pe0<;>rfl
 have hnx:st.nx<q.2.2.nx:=by rw [hq2];omega
 have hgrow:=Ro (w':=W1) st.nx st.nx hc.ok (by omega) hold (by rw [← hW1];rfl) (by rw [← hW1];rfl) (by rw [← hW1];rfl)
 have hname:=agj (o:=st.nx) (b:=w.heap.size+1) (base:=0) hgrow.2 (hc.fresh _ (Nat.le_refl _) (hnr _ (Nat.le_refl _) hnx)) (by cases hq:st.h.get st.nx with|none=>rfl|some x=>exact absurd (hlo _ _ hq) (Nat.lt_irrefl _))
 have hgrow:Step g st.h w st.nx (st.nx+1) (g.with st.nx (w.heap.size+1) 0) st.h W1∧Ok (g.with st.nx (w.heap.size+1) 0) st.h W1:=⟨hgrow.1.trans hname.1 (Nat.le_refl _) (by omega),hname.2⟩
 obtain ⟨g2,hg2⟩:∃ g2,g.with st.nx (w.heap.size+1) 0=g2:=⟨_,rfl⟩
 have hinj2:g2.inj st.nx=some (w.heap.size+1,0):=by rw [← hg2];exact Gh.j0
 rw [hg2] at hgrow
 obtain ⟨st2,hst2⟩:∃ st2:St,st2 = { h:=st.h,nx:=st.nx+1,rl:=st.rl,wl:=st.nx::st.wl }:=⟨_,rfl⟩
 have h2h:st2.h=st.h:=by rw [hst2]
 have h2n:st2.nx=st.nx+1:=by rw [hst2]
 rw [← hst2] at hlo2
 rw [← hst2] at hrun
 have hcW:dz B g2 st2 W1:=hc.step (hnr.sub (Nat.le_refl _) (by rw [h2n];exact hnx)) ⟨by rw [h2n];exact Nat.le_succ _,by rw [h2h,h2n];exact hgrow.1⟩ (by rw [h2h];exact hgrow.2)
 have hrW:=hr.ext hgrow.1.ext
 have hmW:=hd.step hgrow.1
 have hunew:∀ b,w.heap.size≤b→dx g2 st2.h b:=fun b hb o base ho hi=>by
  rw [h2h] at ho
  obtain ⟨x,hx⟩:=Option.isSome_iff_exists.1 ho
  rcases hc.ok.kn o x hx with ⟨q0,_⟩|⟨c,base',q1,_,q3⟩
  ·exfalso
   have hlt:o≠st.nx:=fun e=>Nat.lt_irrefl _ (e ▸ hlo o x hx)
   rw [← hg2,Gh.ek hlt,q0] at hi
   cases hi
  have:=hgrow.1.ext.inj o _ q1
  rw [hi] at this;cases this
  have:=q3.lt
  omega
 have hB1:=hcW.rj st2.nx (· = w.heap.size+1) (Nat.le_refl _) (far:=B.far) (fun _ h=>h)
 have hlen:(#[Value.func (.yield (w.heap.size+1)) #[] #[]]++vb).size≤fn.ntmps:=by
  have:=hcaps.1
  simp at this ⊢
  omega
 refine ⟨w.heap.size+1,[mark w.heap.size],W1,{ target:=.fn (.func gf) vb,args:=#[.func (.yield (w.heap.size+1)) #[] #[]] },W1,gf,#[.func (.yield (w.heap.size+1)) #[] #[]]++vb,W1,?_,?_,fun _ _=>trivial,?_,(fun h=>(by cases h)),?_⟩
 ·rw [← hW1,hrec];exact run_enterLoop_outer _ _ _ _ _
 ·simp only [resolve,hev]
  simp [go_sem]
 ·simp [invoke,go_sem,py hf3]
 ·refine callsIn_of_wp_marks hf1 hf2 trivial ?_
  have hR:=agr (P:=P) (B1:=fi g2 st2.h W1 st2.nx (· = w.heap.size+1) B.far) (l:=w.heap.size+1) (nt:=nt) (rec:=rec) (L0:=L) (by rw [hrec];exact hA) (by rw [hrec];exact hB) (by rw [hrec];simpa [Array.all_toList] using hs1) (by rw [hrec];exact hs2) (by rw [hrec];exact hs3) (by rw [hrec];exact hs4) (by rw [hrec];exact hs5) hw
   (fun g' h' w' hb=>by rw [hrec];exact hrW.ext (hb.Cj hcW.fresh))
  have hR':adn P (w.heap.size+1) rec (qe ex A B' ps.toList L) (fi g2 st2.h W1 st2.nx (· = w.heap.size+1) B.far):=by rw [hrec] at hR ⊢;exact hR
  have hrel:cx g2 W1 fn.ntmps (cg 0 (.yl st.nx::caps)) ((#[Value.func (.yield (w.heap.size+1)) #[] #[]]++vb)++Array.replicate (fn.ntmps - (#[Value.func (.yield (w.heap.size+1)) #[] #[]]++vb).size) undef):=by
   have hrl:az g2 W1 (.yl st.nx::caps) (.func (.yield (w.heap.size+1)) #[] #[]::vb.toList):=az.cons (.yl _ _ _ hinj2) (hcaps.ext hgrow.1.ext)
   have:=u1 (nt:=fn.ntmps) hrl (by simpa using hle)
   have e:(Value.func (.yield (w.heap.size+1)) #[] #[]::vb.toList).toArray = #[Value.func (.yield (w.heap.size+1)) #[] #[]]++vb:=by apply Array.ext';simp
   rw [e] at this
   exact this
  have hpin:st.nx<(fi g2 st2.h W1 st2.nx (· = w.heap.size+1) B.far).ak∧(fi g2 st2.h W1 st2.nx (· = w.heap.size+1) B.far).pb st.nx=some (w.heap.size+1,0):=by
   refine ⟨by show st.nx<st2.nx;omega,?_⟩
   exact hinj2
  have hax:=L9 (l7 code 0) (cg 0 (.yl st.nx::caps))
  have hw1:=(Ux (ex:=l7 code 0) (B:=fi g2 st2.h W1 st2.nx (· = w.heap.size+1) B.far) hT hlk (hRf L) hm hR' (.inl rfl) hpin n code).wp (N - 1) fn.ntmps hf4 none _ st2 _ g2 W1 { tmps:=(#[Value.func (.yield (w.heap.size+1)) #[] #[]]++vb)++Array.replicate (fn.ntmps - (#[Value.func (.yield (w.heap.size+1)) #[] #[]]++vb).size) undef,defers:=[] } hrun hax.2 hlo2 (hnr.sub (by rw [h2n];exact Nat.le_succ _) (by rw [hq2];exact Nat.le_refl _)) hB1 (hrel.less hax.1) rfl hL1 (hunew _ (by omega))
  refine wpIn_mono hw1 ?_
  rintro exx a' w' ⟨e,pe,L',st',g',rfl,heq,hc',hr',hd',hl',hu'⟩
  cases heq
  have fin:bodyPostM (ed none) (N - 1) P fn (rangePost (ed none) N P (w.heap.size+1) (Fin B nt (fun e L st=>(e,L,st)=q)) { a with defers:=[mark w.heap.size]++a.defers }) .ret a' w':=by
   show LeavesInM (ed none) (N - 1) P fn a'.tmps _ a'.defers .returning w'
   rw [hd']
   have hres:(results fn a'.tmps).run P w' = .ok (.tuple #[]) w':=by simp [results,hf5]
   refine ⟨_,hres,?_⟩
   have hend:=run_endLoop (P:=P) hl' (by cases pe0<;>simp [j6.at])
   refine ⟨_,_,hend,?_⟩
   have hput:=lq (r':={ rec.at pe0 with state:=.exhausted }) hc' hl' hu' (.inl rfl)
   have hb:=hput.1.base
   have hcB:dz B g' au (ec w' (w.heap.size+1) (.loop { rec.at pe0 with state:=.exhausted })):=⟨hput.1.ok,hput.1.fresh,hcW.base.comp hb hcW.ak (fun _ h=>h) (fun n hn=>by subst hn;have:=hc.base.size;exact .inl (by omega)),Nat.le_trans hcW.ak hput.1.ak⟩
   have hrB:=hrW.ext (hb.Cj hcW.fresh)
   have hmB:Marks B.n0 au.h g' (ec w' (w.heap.size+1) (.loop { rec.at pe0 with state:=.exhausted })) ([mark w.heap.size]++a.defers):=by
    have hm2:Marks B.n0 st2.h g2 W1 ([mark w.heap.size]++a.defers):=by
     rw [h2h]
     obtain ⟨bs,e1,e2,e3⟩:=hmW
     obtain ⟨bs0,e10,e20,e30⟩:=hd
     have hbs:bs=bs0:=by
      have:bs.map mark=bs0.map mark:=e1.symm.trans e10
      exact (List.map_inj_right (fun x y e=>by simpa [mark] using e)).1 this
     subst hbs
     refine ⟨w.heap.size::bs,by simp [e1],List.nodup_cons.2 ⟨fun hmem=>?_,e2⟩,fun b hb=>?_⟩
     ·have:=bg (e30 _ hmem).2.1;omega
     ·rcases List.mem_cons.1 hb with rfl|hb
      ·have:=hc.base.size
       exact ⟨by omega,hD1,by have:=hunew w.heap.size (Nat.le_refl _);rwa [h2h] at this⟩
      ·exact e3 b hb
    exact Marks.base hb hm2 (fun b hbl=>by subst hbl;exact ⟨_,hL1⟩)
   cases pe0 with
   |none=>exact Fin.mk' (e:=.normal) hq.symm hcB hrB hmB
   |some e=>
    show (Wj e).wpIn (ed none) N P (Fin B nt _) _ _
    cases e with
    |normal=>exact wpIn_skip (Fin.mk' (e:=.normal) hq.symm hcB hrB hmB)
    |ret=>exact wpIn_ret (Fin.mk' (e:=.ret) hq.symm hcB hrB hmB)
    |exit id=>exact wpIn_exit (Fin.mk' (e:=.exit id) hq.symm hcB hrB hmB)
  cases e0 with
  |normal=>exact fin
  |ret=>exact fin
  |exit id=>exact (hne id rfl).elim
end
end Go.Vm
namespace Go.Vm
noncomputable section
theorem Kq {P:Program} {look:eg} (hT:ll P (pc look)) (hl:g7 look) (hm:P.follows .mixedOrders=true) (ex n:Nat):∀ c:Code,Ff P ex c ((m8 P ex c).run look n):=by
 intro c
 have both:∀ {ro:Option Nat} {x y:Bool},(ro=none∨(x && y)=true)→(ro=none∨x=true)∧(ro=none∨y=true):=by
  intro ro x y h
  rcases h with h|h
  ·exact ⟨.inl h,.inl h⟩
  ·rw [Bool.and_eq_true] at h;exact ⟨.inr h.1,.inr h.2⟩
 induction c with
 |skip=>exact ⟨fun L st q h hw=>by cases h;exact hw,fun L=>ae.pure (Ex.normal,L),fun ro N B nt _ _ _ L st q g w a h hw hlo hnr hc hr hd=>by cases h;exact wpIn_skip (Fin.mk' (e:=.normal) rfl hc hr hd)⟩
 |label l=>exact ⟨fun L st q h hw=>by cases h;exact hw,fun L=>ae.pure (Ex.normal,L),fun ro N B nt _ _ _ L st q g w a h hw hlo hnr hc hr hd=>by cases h;exact wpIn_label (Fin.mk' (e:=.normal) rfl hc hr hd)⟩
 |exit id=>exact ⟨fun L st q h hw=>by cases h;exact hw,fun L=>ae.pure (Ex.exit id,L),fun ro N B nt _ _ _ L st q g w a h hw hlo hnr hc hr hd=>by cases h;exact wpIn_exit (Fin.mk' (e:=.exit id) rfl hc hr hd)⟩
 |ret=>exact ⟨fun L st q h hw=>by cases h;exact hw,fun L=>ae.pure (Ex.ret,L),fun ro N B nt _ _ _ L st q g w a h hw hlo hnr hc hr hd=>by cases h;exact wpIn_ret (Fin.mk' (e:=.ret) rfl hc hr hd)⟩
 |region id ops draw=>
  refine ⟨fun L st q h hw=>(vk h hw).2.1,fun L=>Ha hl ex ops draw n L,fun ro N B nt hn0 hpl hs L st q g w a h hw hlo hnr hc hr hd=>?_⟩
  have e1:=(vk h hw).1
  exact Ve hT hl hm hs h hw hlo hnr hc hr hd (fun g w a' hc hr hd _=>Fin.mk' (e:=.normal) (by rw [← e1]) hc hr hd)
 |seq x y ihx ihy=>
  refine ⟨fun L st q h hw=>?_,fun L=>(Gu (ihx.ia L) ihy.ia).congr (fun st=>rfl),fun ro N B nt hn0 hpl hs L st q g w a h hw hlo hnr hc hr hd=>?_⟩
  ·rcases y5 h with ⟨L1,au,h1,h2⟩|⟨h1,_⟩
   ·exact ihy.within _ _ _ h2 (ihx.within _ _ _ h1 hw)
   ·exact ihx.within _ _ _ h1 hw
  ·simp only [cr,Bool.and_eq_true] at hs
   refine wpIn_seq ?_
   rcases y5 h with ⟨L1,au,h1,h2⟩|⟨h1,h2⟩
   ·have hlo1:=ihx.low h1 hlo
    have hle1:=ihx.le h1 hlo
    have hle2:=ihy.le h2 hlo1
    refine wpIn_mono (ihx.wp ro N B nt hn0 (both hpl).1 hs.1 _ _ _ g w a h1 hw hlo (hnr.sub (Nat.le_refl _) hle2) hc hr hd) ?_
    rintro exx a1 w1 ⟨e1,L1',st1',g1,rfl,he,hc1,hr1,hd1⟩
    cases he
    exact ihy.wp ro N B nt hn0 (both hpl).2 hs.2 _ _ _ g1 w1 a1 h2 (ihx.within _ _ _ h1 hw) hlo1 (hnr.sub hle1 (Nat.le_refl _)) hc1 hr1 hd1
   ·refine wpIn_mono (ihx.wp ro N B nt hn0 (both hpl).1 hs.1 _ _ _ g w a h1 hw hlo hnr hc hr hd) ?_
    rintro exx a1 w1 ⟨e1,L1,au,g1,rfl,he,hc1,hr1,hd1⟩
    subst he
    cases e1 with
    |normal=>exact (h2 rfl).elim
    |exit id=>exact ⟨.exit id,L1,au,g1,rfl,rfl,hc1,hr1,hd1⟩
    |ret=>exact ⟨.ret,L1,au,g1,rfl,rfl,hc1,hr1,hd1⟩
 |cond c x y ihx ihy=>
  have key:∀ L st q,(m8 P ex (.cond c x y)).run look n L st=some q→∃ v,(bf L c).bool=some v∧(v=true→(m8 P ex x).run look n L st=some q)∧(v=false→(m8 P ex y).run look n L st=some q):=by
   intro L st q h
   change (match (bf L c).bool with
    |some b=>bif b then (m8 P ex x).run look n L st else (m8 P ex y).run look n L st
    |none=>none)=some q at h
   cases hb:(bf L c).bool with
   |none=>rw [hb] at h;cases h
   |some v=>
    rw [hb] at h
    exact ⟨v,rfl,fun e=>by subst e;exact h,fun e=>by subst e;exact h⟩
  refine ⟨fun L st q h hw=>?_,fun L=>?_,fun ro N B nt hn0 hpl hs L st q g w a h hw hlo hnr hc hr hd=>?_⟩
  ·obtain ⟨v,_,h1,h2⟩:=key L st q h
   cases v with
   |true=>exact ihx.within _ _ _ (h1 rfl) hw
   |false=>exact ihy.within _ _ _ (h2 rfl) hw
  ·cases hb:(bf L c).bool with
   |none=>
    refine ae.fail.congr (fun st=>?_)
    show jg (fun st=>match (bf L c).bool with|some b=>_|none=>none) st=_
    unfold jg;rw [hb];rfl
   |some v=>
    cases v with
    |true=>
     refine (ihx.ia L).congr (fun st=>?_)
     show jg (fun st=>match (bf L c).bool with
      |some b=>bif b then (m8 P ex x).run look n L st else (m8 P ex y).run look n L st
      |none=>none) st=_
     unfold uv jg;rw [hb];rfl
    |false=>
     refine (ihy.ia L).congr (fun st=>?_)
     show jg (fun st=>match (bf L c).bool with
      |some b=>bif b then (m8 P ex x).run look n L st else (m8 P ex y).run look n L st
      |none=>none) st=_
     unfold uv jg;rw [hb];rfl
  ·obtain ⟨v,hv,h1,h2⟩:=key L st q h
   simp only [cr,Bool.and_eq_true] at hs
   have hev:=yt (hr.eval c) hv
   cases v with
   |true=>exact wpIn_cond_true hev (ihx.wp ro N B nt hn0 (both hpl).1 hs.1 _ _ _ g w a (h1 rfl) hw hlo hnr hc hr hd)
   |false=>exact wpIn_cond_false hev (ihy.wp ro N B nt hn0 (both hpl).2 hs.2 _ _ _ g w a (h2 rfl) hw hlo hnr hc hr hd)
 |block id x ih=>
  have key:∀ L st q,(m8 P ex (.block id x)).run look n L st=some q→∃ p,(m8 P ex x).run look n L st=some p∧q=(yg id p.1,p.2.1,p.2.2):=by
   intro L st q h
   change (match (m8 P ex x).run look n L st with
    |some p=>some (yg id p.1,p.2.1,p.2.2)
    |none=>none)=some q at h
   cases h1:(m8 P ex x).run look n L st with
   |none=>rw [h1] at h;cases h
   |some p=>rw [h1] at h;cases h;exact ⟨p,rfl,rfl⟩
  refine ⟨fun L st q h hw=>?_,fun L=>?_,fun ro N B nt hn0 hpl hs L st q g w a h hw hlo hnr hc hr hd=>?_⟩
  ·obtain ⟨p,h1,rfl⟩:=key L st q h
   have:=ih.within L st p h1 hw
   exact this
  ·refine (ae.bind (ih.ia L) (fun p=>ae.pure (yg id p.1,p.2))).congr (fun st=>?_)
   show jg (fun st=>match (m8 P ex x).run look n L st with
    |some p=>some (yg id p.1,p.2.1,p.2.2)
    |none=>none) st=_
   unfold uv jg M.bind
   dsimp only
   cases (m8 P ex x).run look n L st<;>rfl
  ·obtain ⟨p,h1,rfl⟩:=key L st q h
   refine wpIn_block (wpIn_mono (ih.wp ro N B nt hn0 hpl hs _ _ _ g w a h1 hw hlo hnr hc hr hd) ?_)
   rintro exx a1 w1 ⟨e1,L1,au,g1,rfl,he,hc1,hr1,hd1⟩
   subst he
   cases e1 with
   |normal=>exact ⟨.normal,L1,au,g1,rfl,rfl,hc1,hr1,hd1⟩
   |ret=>exact ⟨.ret,L1,au,g1,rfl,rfl,hc1,hr1,hd1⟩
   |exit j=>
    simp only [yg]
    by_cases e:j=id
    ·subst e
     simp only [Nat.beq_refl,cond_true]
     simp only [qm,Exit.inBlock,if_true]
     exact ⟨.normal,L1,au,g1,rfl,rfl,hc1,hr1,hd1⟩
    ·rw [ka e,cond_false]
     simp only [qm,Exit.inBlock,if_neg e]
     exact ⟨.exit j,L1,au,g1,rfl,rfl,hc1,hr1,hd1⟩
 |loop x ih=>exact ajw ih n
 |scope x ih=>
  refine ⟨ih.within,ih.ia,fun ro N B nt hn0 hpl hs L st q g w a h hw hlo hnr hc hr hd=>?_⟩
  refine wb (wpIn_mono (ih.wp ro N B nt hn0 hpl hs _ _ _ g w a h hw hlo hnr hc hr hd) ?_)
  rintro exx a1 w1 ⟨e1,L1,au,g1,rfl,he,hc1,hr1,hd1⟩
  cases e1<;>exact ⟨_,L1,au,g1,rfl,he,hc1,hr1,hd1⟩
 |rangeFunc f ps asg body iha ihb=>exact agv hT hl hm ex n f ps asg body iha ihb
 |goto l=>exact ⟨fun L st q h=>(by cases h),fun L=>ae.fail,fun ro N B nt _ _ _ L st q g w a h=>(by cases h)⟩
 |refuse why=>exact ⟨fun L st q h=>(by cases h),fun L=>ae.fail,fun ro N B nt _ _ _ L st q g w a h=>(by cases h)⟩
end
end Go.Vm
