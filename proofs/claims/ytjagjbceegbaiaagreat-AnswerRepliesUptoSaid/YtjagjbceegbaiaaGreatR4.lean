/- A piece of the proof of the law AnswerReplies: lemmas. No condition. -/
import Derived.Test.YtjagjbceegbaiaaGreatProg
import Derived.Test.YtjagjbceegbaiaaGreatRows
import Derived.Test.YtjagjbceegbaiaaGreatR3
set_option linter.unusedSimpArgs false
set_option linter.unusedVariables false
set_option linter.unusedSectionVars false
set_option maxRecDepth 2000000
section
namespace Go.Proofs.YtjagjbceegbaiaaGreat
open Go.Vm
def oy (z:ay) (n:Name):Bool:=dj n z.origin && (dt n z.origin || z.ak.any fun s=>dj s.owner n)
theorem aFi (z:ay) (n:Name) (hz:bo z) (hn:aw n):wl PP [uf,eg] 0 (Tryz.f46.body.getD .skip) (c9 PP Tryz.f46.results.toList (fun r st=>(r1 bk).get true st.h r=some (oy z n))) (cp 0 [bf.val false z,aj.val false n]) (bg []):=by
 have hl:=hz.len;unfold Tryz.f46;simp only [dy,bz];simp only [↓wR,zT,simprocAttr,kp,hn,hz.origin];unfold oy;rw [cw];refine ⟨fun h=>?_,fun h=>?_⟩
 ·have h':dj n z.origin=false:=by simpa using h
  simp only [↓wR,zT,simprocAttr,h,h'];rfl
 have h':dj n z.origin=true:=by simpa using h
 simp only [↓wR,zT,simprocAttr,h,h',j6,hn,hz.origin];rw [cw];refine ⟨fun h2=>?_,fun h2=>?_⟩
 ·simp only [↓wR,zT,simprocAttr,h2]
 simp only [↓wR,zT,simprocAttr,h2];refine ct (T:=[]) (ar.nil PP) mixed Tryz.func82 rfl zK zK zK zK ?_;unfold Tryz.f82;simp only [↓wR,zT,simprocAttr];refine ct (T:=[]) (ar.nil PP) mixed Tryz.func132 rfl zK zK zK zK ?_;unfold Tryz.f132;simp only [↓wR,zT,simprocAttr];refine dq [0,1,7,8] (fun (i:Nat)=>[zs z.ak,.fn (.func 83) [] [.ptr 1 0],zi z.ak.length,zi i]) (fun _=>[(zZ z),some (.row [zn n] 0 2 23)]) (fun i=>i<=z.ak.length/\(z.ak.any fun s=>dj s.owner n)=((z.ak.drop i).any fun s=>dj s.owner n)) (fun i=>z.ak.length - i) 0 ⟨zzb _,rfl⟩ zS zS ?_;rintro i ⟨hi,hx⟩;simp only [↓wR,zT,simprocAttr];rw [bh];refine ⟨fun h3=>?_,fun h3=>?_⟩
 ·obtain ⟨c,hc,aF,hlt⟩:=du (zp h3);rw [aF,List.any_cons] at hx;have hcs:=hz.set c (zm hc)
  repeat (first|simp only [↓wR,zT,simprocAttr,h3,hc]|simp (disch:=omega) only [zW])
  refine ct (T:=[uf]) (ar.cons (aq oh) (ar.nil PP)) mixed Tryz.func83 rfl zK zK zK zK ?_;unfold Tryz.f83;simp only [↓wR,zT,simprocAttr,kp,hcs.owner,hn];rw [cw];refine ⟨fun h4=>?_,fun h4=>?_⟩
  ·rw [h4,Bool.true_or] at hx;simp only [↓wR,zT,simprocAttr,h4];rw [hx]
  ·rw [h4,Bool.false_or] at hx
   repeat (first|simp only [↓wR,zT,simprocAttr,h4]|simp (disch:=omega) only [zW])
   exact ⟨i+1,⟨hlt,hx⟩,zO,zF⟩
 ·rw [eu (zq h3),List.any_nil] at hx;simp only [↓wR,zT,simprocAttr,h3];rw [hx]<;>rfl
noncomputable def S6 (x:ay × Name × Unit):Option AV:=if bo x.1/\aw x.2.1 then some ((r1 bk).E true (oy x.1 x.2.1)) else none
theorem aez (x:ay × Name × Unit) (r:AV) (h:S6 x=some r):bj PP 46 ((aC bf (aC aj a0)).E x) r:=by obtain ⟨hc,rfl⟩:=zI h;exact az (ar.cons (aq oh) (ar.cons (aq gy) (ar.nil PP))) Tryz.func46 zK zK zK zL (r1 bk) true (oy x.1 x.2.1) (aFi x.1 x.2.1 hc.1 hc.2)
noncomputable abbrev aH4:zE:=(46,true,cx (aC bf (aC aj a0)) S6)
theorem ava (t:UInt16):wl PP [] 0 (Tryz.f196.body.getD .skip) (c9 PP Tryz.f196.results.toList (fun r st=>(r1 bk).get true st.h r=some false)) (cp 0 [cj.val false t]) (bg []):=by unfold Tryz.f196;simp only [↓wR,zT,simprocAttr,bne_self_eq_false]
noncomputable def aa6 (x:UInt16 × Unit):Option AV:=some ((r1 bk).E true (false))
theorem anz (x:UInt16 × Unit) (r:AV) (h:aa6 x=some r):bj PP 196 ((aC cj a0).E x) r:=by cases h;exact az (ar.nil PP) Tryz.func196 zK zK zK zL (r1 bk) true (false) (ava x.1)
noncomputable abbrev aHa:zE:=(196,true,cx (aC cj a0) aa6)
def M0 (a b:UInt16):Int:=if (a.toNat:Int)<b.toNat then -1 else if (b.toNat:Int)<a.toNat then 1 else 0
theorem aFa (a b:UInt16):wl PP [aHa] 0 (Tryz.f167.body.getD .skip) (c9 PP Tryz.f167.results.toList (fun r st=>(r1 (bb .i64)).get true st.h r=some (M0 a b))) (cp 0 [cj.val false a,cj.val false b]) (bg []):=by
 unfold Tryz.f167;unfold M0;simp only [↓wR,zT,simprocAttr,aa6];rw [bh];refine ⟨fun h=>?_,fun h=>?_⟩
 ·rw [if_pos h];simp only [↓wR,zT,simprocAttr,h]
 ·rw [if_neg h];simp only [↓wR,zT,simprocAttr,h];rw [bh];refine ⟨fun h2=>?_,fun h2=>?_⟩
  ·rw [if_pos h2];simp only [↓wR,zT,simprocAttr,h2]
  ·rw [if_neg h2];simp only [↓wR,zT,simprocAttr,h2]
noncomputable def ahi (x:UInt16 × UInt16 × Unit):Option AV:=some ((r1 (bb .i64)).E true (M0 x.1 x.2.1))
theorem arh (x:UInt16 × UInt16 × Unit) (r:AV) (h:ahi x=some r):bj PP 167 ((aC cj (aC cj a0)).E x) r:=by cases h;exact az (ar.cons (aq anz) (ar.nil PP)) Tryz.func167 zK zK zK zL (r1 (bb .i64)) true (M0 x.1 x.2.1) (aFa x.1 x.2.1)
noncomputable abbrev aJd:zE:=(167,true,cx (aC cj (aC cj a0)) ahi)
def J1:List Int->Int
 | []=>0
 |a::r=>if a≠0 then a else J1 r
theorem aI8 (l:List Int) (hl:l.length<=16777216):wl PP [] 0 (Tryz.f165.body.getD .skip) (c9 PP Tryz.f165.results.toList (fun r st=>(r1 (bb .i64)).get true st.h r=some (J1 l))) (cp 0 [(cg (bb .i64)).val false l]) (bg []):=by
 unfold Tryz.f165;rw [l5];simp only [↓wR,zT,simprocAttr];refine dq [3,6,7,8] (fun (i:Nat)=>[zi 0,.vl false 1 (l.map ((bb .i64).val false)),zi l.length,zi i]) (fun _=>[]) (fun i=>i<=l.length/\J1 l=J1 (l.drop i)) (fun i=>l.length - i) 0 ⟨zzb _,rfl⟩ zS zS ?_;rintro i ⟨hi,hx⟩;simp only [↓wR,zT,simprocAttr];rw [bh];refine ⟨fun h=>?_,fun h=>?_⟩
 ·obtain ⟨c,hc,aF,hlt⟩:=du (zp h);rw [aF,J1] at hx;simp only [↓wR,zT,simprocAttr,h,hc];rw [dh];refine ⟨fun ⟨h2,e2⟩=>?_,fun ⟨h2,e2⟩=>?_⟩
  ·rw [if_pos e2] at hx;simp only [↓wR,zT,simprocAttr,h2];rw [hx]
  ·rw [if_neg zO] at hx
   repeat (first|simp only [↓wR,zT,simprocAttr,h2]|simp (disch:=omega) only [zW])
   exact ⟨i+1,⟨hlt,hx⟩,zO,zF⟩
 ·rw [eu (zq h)] at hx;simp only [↓wR,zT,simprocAttr,h];rw [hx];rfl
noncomputable def aln (x:List Int × Unit):Option AV:=if x.1.length<=16777216 then some ((r1 (bb .i64)).E true (J1 x.1)) else none
theorem aCg (x:List Int × Unit) (r:AV) (h:aln x=some r):bj PP 165 ((aC (cg (bb .i64)) a0).E x) r:=by obtain ⟨hc,rfl⟩:=zI h;exact az (ar.nil PP) Tryz.func165 zK zK zK zL (r1 (bb .i64)) true (J1 x.1) (aI8 x.1 hc)
noncomputable abbrev orC:zE:=(165,true,cx (aC (cg (bb .i64)) a0) aln)
noncomputable def pr (a b:ba):Int:=J1 [u5 a.owner b.owner,M0 a.type b.type]
theorem arj (a b:ba) (ha:db a) (hb:db b):wl PP [an0,aJd,orC] 0 (Tryz.f139.body.getD .skip) (c9 PP Tryz.f139.results.toList (fun r st=>(r1 (bb .i64)).get true st.h r=some (pr a b))) (cp 0 [ag.val false a,ag.val false b]) (bg []):=by unfold Tryz.f139;simp only [jz];simp only [↓wR,zT,simprocAttr];refine ⟨zK,.inl ?_⟩;simp only [↓wR,zT,simprocAttr,zf,ahi,aln,ha.owner,hb.owner];exact ⟨zK,rfl⟩
noncomputable def Ch (x:ba × ba × Unit):Option AV:=if db x.1/\db x.2.1 then some ((r1 (bb .i64)).E true (pr x.1 x.2.1)) else none
theorem afn (x:ba × ba × Unit) (r:AV) (h:Ch x=some r):bj PP 139 ((aC ag (aC ag a0)).E x) r:=by obtain ⟨hc,rfl⟩:=zI h;exact az (ar.cons (aq Vx) (ar.cons (aq arh) (ar.cons (aq aCg) (ar.nil PP)))) Tryz.func139 zK zK zK zL (r1 (bb .i64)) true (pr x.1 x.2.1) (arj x.1 x.2.1 hc.1 hc.2)
noncomputable abbrev ag5:zE:=(139,true,cx (aC ag (aC ag a0)) Ch)
noncomputable def re (t:UInt16):List cq->Bool
 |a::b::r=>if 0<=E0 t a b then false else re t (b::r)
 |_=>true
noncomputable def il (z:ay) (i:Nat) (s:ba):Bool:=
 (match i with|0=>true|k+1=>match z.ak[k]? with|some a=>decide (¬ (pr a s ≥ 0))|none=>true) && re s.type s.data
theorem ud (k:Nat):((k:Int)+1).toNat=k+1:=zO
theorem B7 (k:Nat):(0:Int)<=(k:Int)+1:=zO
theorem Je (t:UInt16) {l:List cq} {k:Nat} {a b:cq} (ha:l[k]? = some a) (hb:l[k+1]? = some b):re t (l.drop k)=if 0<=E0 t a b then false else re t (l.drop (k+1)):=by rw [Eh ha,Eh hb];rfl
theorem G6 (t:UInt16) {l:List cq} {k:Nat} (h:l.length<=k+1):re t (l.drop k)=true:=by
 have:(l.drop k).length<=1:=by rw [zzt];omega
 match hd:l.drop k with
 | []=>rfl
 | [a]=>rfl
 |a::b::r=>rw [hd] at this;simp at this
theorem az7 (l:xn) (i:Nat) (s:ba) (hz:bo l.z) (hs:db s) (hi:i<=l.z.ak.length):wl PP [ag5,Kq] 0 (Tryz.f96.body.getD .skip) (c9 PP Tryz.f96.results.toList (fun r st=>(r1 bk).get true st.h r=some (il l.z i s))) (cp 0 [.fe (oj.cells false l),(bb .i64).val false i,ag.val false s]) (bg []):=by
 have hd:=hs.data;have hn:=hd.len;have hl:=hz.len;unfold Tryz.f96;simp only [jz];simp only [↓wR,zT,simprocAttr,Ew];refine ⟨zK,.inl ?_⟩;rw [bh];refine ⟨fun h=>?_,fun h=>?_⟩
 ·cases i with
  |zero=>omega
  |succ k=>
  obtain ⟨a,ha⟩:∃ a,l.z.ak[k]? = some a:=⟨_,zh zO⟩;have has:=hz.set a (zm ha)
  repeat (first|simp only [↓wR,zT,simprocAttr,h,ha,Int.natCast_add,Int.add_sub_cancel,Ch,has,hs]|simp (disch:=omega) only [zW])
  refine ⟨zK,?_⟩;rw [bh];refine ⟨fun h2=>?_,fun h2=>?_⟩
  ·have hv:il l.z (k+1) s=false:=by simp only [il,ha];simp [h2]
   simp only [↓wR,zT,simprocAttr,h2];rw [hv]
  have hv:il l.z (k+1) s=re s.type s.data:=by simp only [il,ha];simp [h2]
  clear ha;simp only [↓wR,zT,simprocAttr,h2];refine dq [5,7] (fun (k:Nat)=>[.ptr 0 0,zi ((k:Int)+1)]) (fun _=>[(zY s)]) (fun k=>(k=0\/k+1<=s.data.length)/\re s.type s.data=re s.type (s.data.drop k)) (fun k=>s.data.length - k) 0 ⟨.inl rfl,rfl⟩ zS zS ?_;rintro k ⟨hk,hx⟩;simp only [↓wR,zT,simprocAttr];rw [bh];refine ⟨fun h5=>?_,fun h5=>?_⟩
  ·obtain ⟨a,ha⟩:∃ a,s.data[k]? = some a:=⟨_,zh zO⟩;obtain ⟨b,hb⟩:∃ b,s.data[k+1]? = some b:=⟨_,zh zO⟩;rw [Je _ ha hb] at hx;have has:=hd.mem a (zm ha);have aX:=hd.mem b (zm hb);simp only [↓wR,zT,simprocAttr,h5];refine ⟨zK,.inl ?_⟩
   repeat (first|simp only [↓wR,zT,simprocAttr,ha,hb,Int.add_sub_cancel,ud,B7,pa,has,aX]|simp (disch:=omega) only [zW])
   refine ⟨zK,?_⟩;rw [bh];refine ⟨fun h6=>?_,fun h6=>?_⟩
   ·rw [if_pos h6] at hx;simp only [↓wR,zT,simprocAttr,h6];rw [hv,hx]
   ·rw [if_neg h6] at hx
    repeat (first|simp only [↓wR,zT,simprocAttr,h6]|simp (disch:=omega) only [zW])
    exact ⟨k+1,⟨.inr zO,hx⟩,zO,zF⟩
  ·rw [G6 _ zO] at hx;simp only [↓wR,zT,simprocAttr,h5];rw [hv,hx]
 ·simp only [↓wR,zT,simprocAttr,h];have fC:i=0:=zO;have hv:il l.z i s=re s.type s.data:=by rw [fC];simp [il]
  refine ⟨zK,?_⟩;refine dq [5,7] (fun (k:Nat)=>[.ptr 0 0,zi ((k:Int)+1)]) (fun _=>[(zY s)]) (fun k=>(k=0\/k+1<=s.data.length)/\re s.type s.data=re s.type (s.data.drop k)) (fun k=>s.data.length - k) 0 ⟨.inl rfl,rfl⟩ zS zS ?_;rintro k ⟨hk,hx⟩;simp only [↓wR,zT,simprocAttr];rw [bh];refine ⟨fun h5=>?_,fun h5=>?_⟩
  ·obtain ⟨a,ha⟩:∃ a,s.data[k]? = some a:=⟨_,zh zO⟩;obtain ⟨b,hb⟩:∃ b,s.data[k+1]? = some b:=⟨_,zh zO⟩;rw [Je _ ha hb] at hx;have has:=hd.mem a (zm ha);have aX:=hd.mem b (zm hb);simp only [↓wR,zT,simprocAttr,h5];refine ⟨zK,.inl ?_⟩
   repeat (first|simp only [↓wR,zT,simprocAttr,ha,hb,Int.add_sub_cancel,ud,B7,pa,has,aX]|simp (disch:=omega) only [zW])
   refine ⟨zK,?_⟩;rw [bh];refine ⟨fun h6=>?_,fun h6=>?_⟩
   ·rw [if_pos h6] at hx;simp only [↓wR,zT,simprocAttr,h6];rw [hv,hx]
   ·rw [if_neg h6] at hx
    repeat (first|simp only [↓wR,zT,simprocAttr,h6]|simp (disch:=omega) only [zW])
    exact ⟨k+1,⟨.inr zO,hx⟩,zO,zF⟩
  ·rw [G6 _ zO] at hx;simp only [↓wR,zT,simprocAttr,h5];rw [hv,hx]
theorem avm (l:xn) (i:Int) (s:ba) (hz:bo l.z) (hs:db s) (hi : 0<=i/\i<=l.z.ak.length):wl PP [ag5,Kq] 0 (Tryz.f96.body.getD .skip) (c9 PP Tryz.f96.results.toList (fun r st=>(r1 bk).get true st.h r=some (il l.z i.toNat s))) (cp 0 [.fe (oj.cells false l),(bb .i64).val false i,ag.val false s]) (bg []):=by
 have:=az7 l i.toNat s hz hs zO
 rwa [Int.toNat_of_nonneg hi.1] at this
noncomputable def Lj (x:xn × Int × ba × Unit):Option AV:=if (bo x.1.z/\db x.2.2.1)/\0<=x.2.1/\x.2.1<=x.1.z.ak.length then some ((r1 bk).E true (il x.1.z x.2.1.toNat x.2.2.1)) else none
theorem T6 (x:xn × Int × ba × Unit) (r:AV) (h:Lj x=some r):bj PP 96 ((aP oj (aC (bb .i64) (aC ag a0))).E x) r:=by obtain ⟨hc,rfl⟩:=zI h;exact az (ar.cons (aq afn) (ar.cons (aq Iv) (ar.nil PP))) Tryz.func96 zK zK zK zL (r1 bk) true (il x.1.z x.2.1.toNat x.2.2.1) (avm x.1 x.2.1 x.2.2.1 hc.1.1 hc.1.2 hc.2)
noncomputable abbrev ld:zE:=(96,true,cx (aP oj (aC (bb .i64) (aC ag a0))) Lj)
def wc (i:Nat) (n:Name):Nat->List ba->Bool
 |_,[]=>false
 |k,o::r=>(decide (¬ (k:Int)=i) && dt o.owner n) || wc i n (k+1) r
def kb (z:ay) (i:Nat) (s:ba):Bool:=
 if ¬ (s.type.toNat:Int)=5 then true else if ¬ (s.data.length:Int)=1 then false else if dt s.owner z.origin=true then false else !wc i s.owner 0 z.ak
theorem aB5 (l:xn) (i:Nat) (s:ba) (hz:bo l.z) (hs:db s):wl PP [eg] 0 (Tryz.f101.body.getD .skip) (c9 PP Tryz.f101.results.toList (fun r st=>(r1 bk).get true st.h r=some (kb l.z i s))) (cp 0 [.fe (oj.cells false l),(bb .i64).val false i,ag.val false s]) (bg []):=by
 have hl:=hz.len;unfold Tryz.f101;simp only [jz];simp only [↓wR,zT,simprocAttr,Ew];unfold kb;rw [dh];refine ⟨fun ⟨h,e⟩=>?_,fun ⟨h,e⟩=>?_⟩
 ·rw [if_pos e];simp only [↓wR,zT,simprocAttr,h]
 rw [if_neg zO];simp only [↓wR,zT,simprocAttr,h];refine ⟨zK,.inl ?_⟩;rw [dh];refine ⟨fun ⟨h2,e2⟩=>?_,fun ⟨h2,e2⟩=>?_⟩
 ·rw [if_pos e2];simp only [↓wR,zT,simprocAttr,h2];exact by kernel_rfl
 rw [if_neg zO];simp only [↓wR,zT,simprocAttr,h2,j6,hs.owner,hz.origin];refine ⟨zK,?_⟩;rw [cw];refine ⟨fun h3=>?_,fun h3=>?_⟩
 ·rw [if_pos h3];simp only [↓wR,zT,simprocAttr,h3]
 rw [if_neg (by rw [h3];decide)];simp only [↓wR,zT,simprocAttr,h3];refine dq [1,5,30,31,32] (fun (k:Nat)=>[zi i,.ptr 0 0,zs l.z.ak,zi l.z.ak.length,zi k]) (fun _=>[(zY s)]) (fun k=>k<=l.z.ak.length/\wc i s.owner 0 l.z.ak=wc i s.owner k (l.z.ak.drop k)) (fun k=>l.z.ak.length - k) 0 ⟨zzb _,rfl⟩ zS zS ?_;rintro k ⟨hk,hx⟩;simp only [↓wR,zT,simprocAttr];rw [bh];refine ⟨fun h4=>?_,fun h4=>?_⟩
 ·obtain ⟨c,hc,aF,hlt⟩:=du (zp h4);rw [aF,wc] at hx;have hcs:=hz.set c (zm hc);simp only [↓wR,zT,simprocAttr,h4,hc];rw [dh];refine ⟨fun ⟨h5,e5⟩=>?_,fun ⟨h5,e5⟩=>?_⟩
  ·rw [zp e5,Bool.true_and] at hx;simp only [↓wR,zT,simprocAttr,h5,j6,hcs.owner,hs.owner];rw [cw];refine ⟨fun h6=>?_,fun h6=>?_⟩
   ·rw [h6,Bool.true_or] at hx;simp only [↓wR,zT,simprocAttr,h6];rw [hx];rfl
   ·rw [h6,Bool.false_or] at hx
    repeat (first|simp only [↓wR,zT,simprocAttr,h6]|simp (disch:=omega) only [zW])
    exact ⟨k+1,⟨hlt,hx⟩,zO,zF⟩
  ·rw [zq zO,Bool.false_and,Bool.false_or] at hx
   repeat (first|simp only [↓wR,zT,simprocAttr,h5]|simp (disch:=omega) only [zW])
   exact ⟨k+1,⟨hlt,hx⟩,zO,zF⟩
 ·rw [eu (zq h4),wc] at hx;simp only [↓wR,zT,simprocAttr,h4];rw [hx];rfl
theorem axw (l:xn) (i:Int) (s:ba) (hz:bo l.z) (hs:db s) (hi : 0<=i):wl PP [eg] 0 (Tryz.f101.body.getD .skip) (c9 PP Tryz.f101.results.toList (fun r st=>(r1 bk).get true st.h r=some (kb l.z i.toNat s))) (cp 0 [.fe (oj.cells false l),(bb .i64).val false i,ag.val false s]) (bg []):=by
 have:=aB5 l i.toNat s hz hs
 rwa [Int.toNat_of_nonneg hi] at this
noncomputable def Hq (x:xn × Int × ba × Unit):Option AV:=if (bo x.1.z/\db x.2.2.1)/\0<=x.2.1 then some ((r1 bk).E true (kb x.1.z x.2.1.toNat x.2.2.1)) else none
theorem Uz (x:xn × Int × ba × Unit) (r:AV) (h:Hq x=some r):bj PP 101 ((aP oj (aC (bb .i64) (aC ag a0))).E x) r:=by obtain ⟨hc,rfl⟩:=zI h;exact az (ar.cons (aq gy) (ar.nil PP)) Tryz.func101 zK zK zK zL (r1 bk) true (kb x.1.z x.2.1.toNat x.2.2.1) (axw x.1 x.2.1 x.2.2.1 hc.1.1 hc.1.2 hc.2)
noncomputable abbrev lg:zE:=(101,true,cx (aP oj (aC (bb .i64) (aC ag a0))) Hq)
def kh (s:ba):Bool:=if ¬ (s.cls.toNat:Int)=1 then false else if (s.type.toNat:Int)=0 then false else if (s.type.toNat:Int)=41 then false else !decide ((s.type.toNat:Int)=255)
theorem azp (i:Int) (s:ba):wl PP [] 0 (Tryz.f97.body.getD .skip) (c9 PP Tryz.f97.results.toList (fun r st=>(r1 bk).get true st.h r=some (kh s))) (cp 0 [(bb .i64).val false i,ag.val false s]) (bg []):=by
 unfold Tryz.f97;simp only [jz];simp only [↓wR,zT,simprocAttr];unfold kh;rw [cf];refine ⟨fun ⟨h,e⟩=>?_,fun ⟨h,e⟩=>?_⟩
 ·rw [if_neg zO];simp only [↓wR,zT,simprocAttr,h];rw [dh];refine ⟨fun ⟨h2,e2⟩=>?_,fun ⟨h2,e2⟩=>?_⟩
  ·rw [if_neg e2];simp only [↓wR,zT,simprocAttr,h2];rw [dh];refine ⟨fun ⟨h3,e3⟩=>?_,fun ⟨h3,e3⟩=>?_⟩
   ·rw [if_neg e3];simp only [↓wR,zT,simprocAttr,h3];rfl
   ·rw [if_pos e3];simp only [↓wR,zT,simprocAttr,h3]
  ·rw [if_pos e2];simp only [↓wR,zT,simprocAttr,h2]
 ·rw [if_pos e];simp only [↓wR,zT,simprocAttr,h]
noncomputable def abo (x:Int × ba × Unit):Option AV:=some ((r1 bk).E true (kh x.2.1))
theorem Ut (x:Int × ba × Unit) (r:AV) (h:abo x=some r):bj PP 97 ((aC (bb .i64) (aC ag a0)).E x) r:=by cases h;exact az (ar.nil PP) Tryz.func97 zK zK zK zL (r1 bk) true (kh x.2.1) (azp x.1 x.2.1)
noncomputable abbrev lh:zE:=(97,true,cx (aC (bb .i64) (aC ag a0)) abo)
theorem ayz (i:Int) (s:ba) (z:ay) (hs:db s) (hz:bo z):wl PP [uf] 0 (Tryz.f98.body.getD .skip) (c9 PP Tryz.f98.results.toList (fun r st=>(r1 bk).get true st.h r=some (dj s.owner z.origin))) (cp 0 [(bb .i64).val false i,ag.val false s,.fe (bf.cells false z)]) (bg []):=by unfold Tryz.f98;simp only [jz];simp only [↓wR,zT,simprocAttr,Ef,kp,hs.owner,hz.origin]
noncomputable def Ht (x:Int × ba × ay × Unit):Option AV:=if db x.2.1/\bo x.2.2.1 then some ((r1 bk).E true (dj x.2.1.owner x.2.2.1.origin)) else none
theorem Qs (x:Int × ba × ay × Unit) (r:AV) (h:Ht x=some r):bj PP 98 ((aC (bb .i64) (aC ag (aP bf a0))).E x) r:=by obtain ⟨hc,rfl⟩:=zI h;exact az (ar.cons (aq oh) (ar.nil PP)) Tryz.func98 zK zK zK zL (r1 bk) true (dj x.2.1.owner x.2.2.1.origin) (ayz x.1 x.2.1 x.2.2.1 hc.1 hc.2)
noncomputable abbrev j8:zE:=(98,true,cx (aC (bb .i64) (aC ag (aP bf a0))) Ht)
def kg (s:ba):Bool:=if ¬ (s.type.toNat:Int)=2 then true else match s.owner[0]? with|none=>true|some a=>!decide (a=pz)
theorem aEm (i:Int) (s:ba) (hs:db s):wl PP [] 0 (Tryz.f102.body.getD .skip) (c9 PP Tryz.f102.results.toList (fun r st=>(r1 bk).get true st.h r=some (kg s))) (cp 0 [(bb .i64).val false i,ag.val false s]) (bg []):=by
 have hn:=hs.owner.lt;unfold Tryz.f102;simp only [jz];simp only [↓wR,zT,simprocAttr];unfold kg;rw [dh];refine ⟨fun ⟨h,e⟩=>?_,fun ⟨h,e⟩=>?_⟩
 ·rw [if_pos e];simp only [↓wR,zT,simprocAttr,h]
 rw [if_neg zO];simp only [↓wR,zT,simprocAttr,h];rw [cf];refine ⟨fun ⟨h2,e2⟩=>?_,fun ⟨h2,e2⟩=>?_⟩
 ·have hnil:s.owner=[]:=zzf zO;have h0:s.owner[0]? = none:=by rw [hnil];rfl
  rw [h0];simp only [↓wR,zT,simprocAttr,h2]
 ·obtain ⟨a,ha⟩:∃ a,s.owner[0]? = some a:=⟨_,zh zO⟩;have h0 : 0<s.owner.length:=zO;rw [ha];simp only [↓wR,zT,simprocAttr,h2,ha,h0];rfl
noncomputable def Mb (x:Int × ba × Unit):Option AV:=if db x.2.1 then some ((r1 bk).E true (kg x.2.1)) else none
theorem Wy (x:Int × ba × Unit) (r:AV) (h:Mb x=some r):bj PP 102 ((aC (bb .i64) (aC ag a0)).E x) r:=by obtain ⟨hc,rfl⟩:=zI h;exact az (ar.nil PP) Tryz.func102 zK zK zK zL (r1 bk) true (kg x.2.1) (aEm x.1 x.2.1 hc)
noncomputable abbrev nk:zE:=(102,true,cx (aC (bb .i64) (aC ag a0)) Mb)
def nc (z:ay) (s:ba):Bool:=
 match k7 z s.owner with
 |none=>true
 |some c=>if (s.type.toNat:Int)=1 then true else if (s.type.toNat:Int)=28 then true else if (s.type.toNat:Int)=2 then dt c s.owner else false
theorem aGm (i:Int) (s:ba) (z:ay) (hs:db s) (hz:bo z):wl PP [aHk,eg] 0 (Tryz.f103.body.getD .skip) (c9 PP Tryz.f103.results.toList (fun r st=>(r1 bk).get true st.h r=some (nc z s))) (cp 0 [(bb .i64).val false i,ag.val false s,.fe (bf.cells false z)]) (bg []):=by
 have hsm:=Rb (n:=s.owner) hz z.ak none (fun _ h=>h) (fun m hm=>by cases hm);change ∀ m,k7 z s.owner=some m->aw m at hsm;unfold Tryz.f103;simp only [jz];unfold nc;cases hc:k7 z s.owner with
 |none=>
  simp only [↓wR,zT,simprocAttr,Ef,J4,hs.owner,hz,hc,Option.isSome_none]
  done
 |some c=>
  simp only [↓wR,zT,simprocAttr,Ef,J4,hs.owner,hz,hc];rw [cf];refine ⟨fun ⟨h,e⟩=>?_,fun ⟨h,e⟩=>?_⟩
  ·rw [if_pos e];simp only [↓wR,zT,simprocAttr,h]
  rw [if_neg e];simp only [↓wR,zT,simprocAttr,h];rw [cf];refine ⟨fun ⟨h2,e2⟩=>?_,fun ⟨h2,e2⟩=>?_⟩
  ·rw [if_pos e2];simp only [↓wR,zT,simprocAttr,h2]
  rw [if_neg e2];simp only [↓wR,zT,simprocAttr,h2];rw [cf];refine ⟨fun ⟨h3,e3⟩=>?_,fun ⟨h3,e3⟩=>?_⟩
  ·rw [if_pos e3];simp only [↓wR,zT,simprocAttr,h3,j6,hs.owner,hsm c hc]
  ·rw [if_neg e3];simp only [↓wR,zT,simprocAttr,h3]
noncomputable def Su (x:Int × ba × ay × Unit):Option AV:=if db x.2.1/\bo x.2.2.1 then some ((r1 bk).E true (nc x.2.2.1 x.2.1)) else none
theorem aeq (x:Int × ba × ay × Unit) (r:AV) (h:Su x=some r):bj PP 103 ((aC (bb .i64) (aC ag (aP bf a0))).E x) r:=by obtain ⟨hc,rfl⟩:=zI h;exact az (ar.cons (aq ad3) (ar.cons (aq gy) (ar.nil PP))) Tryz.func103 zK zK zK zL (r1 bk) true (nc x.2.2.1 x.2.1) (aGm x.1 x.2.1 x.2.2.1 hc.1 hc.2)
noncomputable abbrev rm:zE:=(103,true,cx (aC (bb .i64) (aC ag (aP bf a0))) Su)
def ln (z:ay) (p:Nat × Nat) (s:ba):Nat × Nat:=
 if (s.type.toNat:Int)=6 then (p.1+1,if (dt s.owner z.origin && decide ((s.data.length:Int)=1))=true then p.2+1 else p.2) else p
def ik (z:ay):Nat × Nat:=z.ak.foldl (ln z) (0,0)
theorem aDs (k:xn) (hz:bo k.z):wl PP [eg] 0 (Tryz.f99.body.getD .skip) (c9 PP Tryz.f99.results.toList (fun r st=>(r2 (bb .i64) (bb .i64)).get true st.h r=some (((ik k.z).1:Int),((ik k.z).2:Int)))) (cp 0 [.fe (oj.cells false k)]) (bg []):=by
 have hl:=hz.len;unfold Tryz.f99;simp only [↓wR,zT,simprocAttr,Ew];refine ct (T:=[]) (ar.nil PP) mixed Tryz.func78 rfl zK zK zK zK ?_;unfold Tryz.f78;simp only [↓wR,zT,simprocAttr];refine ⟨[1,4,5,11],?_⟩;have hib:Fp PP 131=some (Tryz.f131.ntmps,Tryz.f131.body.getD .skip):=zK;simp only [↓wR,zT,simprocAttr,hib];refine ⟨zK,fun l=>?_⟩;unfold Tryz.f131;simp only [↓wR,zT,simprocAttr];refine Js [0,2,7,8,9] (fun (x:Nat × Nat × Nat)=>[.sc (.func (.yield l) #[] #[]),.ptr 4 0,zs k.z.ak,zi k.z.ak.length,zi x.1]) (fun x=>[some (.row [.fe [zn k.z.origin,zs k.z.ak,zi k.e]] 0 2 144),some (.row [zi (x.2.1:Int)] 0 2 3),some (.row [zi (x.2.2:Int)] 0 2 3),some (.row [zn k.z.origin,zs k.z.ak] 0 2 26),some (.row [.sc (.int .u16 6)] 0 2 50)]) (fun x=>x.1<=k.z.ak.length/\x.2.1<=x.1/\x.2.2<=x.1/\ik k.z=(k.z.ak.drop x.1).foldl (ln k.z) x.2) (fun x=>k.z.ak.length - x.1) (0,0,0) ⟨zzb _,zza _,zza _,rfl⟩ zS zS ?_;rintro ⟨i,n,m⟩ ⟨hi,hn,hm,hx⟩;simp only at hi hn hm hx;simp only [↓wR,zT,simprocAttr];rw [Aq];refine ⟨fun h=>?_,fun h=>?_⟩
 ·obtain ⟨c,hc,aF,hlt⟩:=du h;have hcs:=hz.set c (zm hc);have hstep:ik k.z=(k.z.ak.drop (i+1)).foldl (ln k.z) (ln k.z (n,m) c):=by rw [hx,aF];rfl
  simp only [↓wR,zT,simprocAttr,h,hc];rw [Aq];refine ⟨fun h2=>?_,fun h2=>?_⟩
  ·have e2:(c.type.toNat:Int)=6:=by simpa using h2
   simp only [↓wR,zT,simprocAttr,h2];refine Cu [0,2,7,8,9,17,19] ?_
   repeat (first|simp only [↓wR,zT,simprocAttr,Dr,qa]|simp (disch:=omega) only [zW])
   refine ⟨zK,.inl ?_⟩;simp only [↓wR,zT,simprocAttr,j6,hcs.owner,hz.origin];have fin:∀ q,ln k.z (n,m) c=(n+1,q)->q<=i+1->ik k.z=(k.z.ak.drop (i+1)).foldl (ln k.z) (n+1,q):=fun q hq _=>by rw [hstep,hq]
   rw [cw];refine ⟨fun h3=>?_,fun h3=>?_⟩
   ·simp only [↓wR,zT,simprocAttr,h3];refine ⟨zK,?_⟩;rw [cf];refine ⟨fun ⟨h4,e4⟩=>?_,fun ⟨h4,e4⟩=>?_⟩
    ·have hq:ln k.z (n,m) c=(n+1,m+1):=by simp [ln,e2,h3,e4]
     repeat (first|simp only [↓wR,zT,simprocAttr,h4]|simp (disch:=omega) only [zW])
     exact ⟨(i+1,n+1,m+1),⟨hlt,by simp;omega,by simp;omega,fin _ hq zO⟩,by simp;omega,zF,zF⟩
    ·have hq:ln k.z (n,m) c=(n+1,m):=by simp [ln,e2,h3,e4]
     repeat (first|simp only [↓wR,zT,simprocAttr,h4]|simp (disch:=omega) only [zW])
     exact ⟨(i+1,n+1,m),⟨hlt,by simp;omega,by simp;omega,fin _ hq zO⟩,by simp;omega,zF,zF⟩
   ·have hq:ln k.z (n,m) c=(n+1,m):=by simp [ln,e2,h3]
    simp only [↓wR,zT,simprocAttr,h3];refine ⟨zK,?_⟩;exact ⟨(i+1,n+1,m),⟨hlt,by simp;omega,by simp;omega,fin _ hq zO⟩,by simp;omega,zF,zF⟩
  ·have e2:¬ (c.type.toNat:Int)=6:=by simpa using h2
   have hb2:ln k.z (n,m) c=(n,m):=by simp [ln,e2]
   rw [hb2] at hstep
   repeat (first|simp only [↓wR,zT,simprocAttr,h2]|simp (disch:=omega) only [zW])
   exact ⟨(i+1,n,m),⟨hlt,by simp;omega,by simp;omega,hstep⟩,by simp;omega,zF,zF⟩
 ·rw [eu h] at hx;simp only [↓wR,zT,simprocAttr,h];refine ⟨zK,.inl ?_⟩;refine ⟨zK,?_⟩;rw [hx];rfl
noncomputable def Q0 (x:xn × Unit):Option AV:=if bo x.1.z then some ((r2 (bb .i64) (bb .i64)).E true ((((ik x.1.z).1:Int),((ik x.1.z).2:Int)))) else none
theorem Y8 (x:xn × Unit) (r:AV) (h:Q0 x=some r):bj PP 99 ((aP oj a0).E x) r:=by obtain ⟨hc,rfl⟩:=zI h;exact az (ar.cons (aq gy) (ar.nil PP)) Tryz.func99 zK zK zK zL (r2 (bb .i64) (bb .i64)) true ((((ik x.1.z).1:Int),((ik x.1.z).2:Int))) (aDs x.1 hc)
noncomputable abbrev nf:zE:=(99,true,cx (aP oj a0) Q0)
def dg (b:Bool) (err e:Int):Int:=if e=0/\b=false then err else e
def gz (err:Int) (p:Nat->ba->Bool):Nat->List ba->Int->Int
 |_,[],e=>e
 |i,s::r,e=>if e≠0 then e else gz err p (i+1) r (dg (p i s) err e)
def kj (l:List ba):Nat:=l.foldl (fun n s=>n+s.data.length) 0
noncomputable def ov:List ba->Int->Int
 | [],e=>e
 |s::r,e=>ov r (if e=0 then mu s else e)
noncomputable def qc (z:ay):Int:=if dk z.origin≠0 then dk z.origin else ov z.ak (dg (decide (kj z.ak<=2048)) 3 0)
def N6 (z:ay) (l:List ba):Bool:=l.any fun s=>decide ((s.type.toNat:Int)=2) && dt s.owner z.origin
def jm (z:ay):Bool:=N6 z z.ak
theorem ak7 {z:ay} {l:List ba} {i:Nat} {c:ba} (h:l.drop i=c::l.drop (i+1)):N6 z (l.drop i)=((decide ((c.type.toNat:Int)=2) && dt c.owner z.origin) || N6 z (l.drop (i+1))):=by rw [h];rfl
noncomputable def A8 (z:ay):Int:=gz 260 (il z) 0 z.ak (qc z)
noncomputable def Ir (z:ay):Int:=gz 261 (fun _ s=>kh s) 0 z.ak (A8 z)
noncomputable def rk (z:ay):Int:=gz 262 (fun _ s=>dj s.owner z.origin) 0 z.ak (Ir z)
noncomputable def m5 (z:ay):Int:=dg (decide ((ik z).1=1) && decide ((ik z).2=1)) 263 (rk z)
noncomputable def A7 (z:ay):Int:=dg (jm z) 264 (m5 z)
noncomputable def A4 (z:ay):Int:=gz 265 (kb z) 0 z.ak (A7 z)
noncomputable def Gl (z:ay):Int:=gz 266 (fun _ s=>kg s) 0 z.ak (A4 z)
noncomputable def Z1 (z:ay):Int:=gz 267 (fun _ s=>nc z s) 0 z.ak (Gl z)
noncomputable def fp (z:ay):Int:=if qc z≠0 then qc z else Z1 z
theorem Sb (l:List ba) (i:Nat) (c:ba) (h:l[i]? = some c):kj (l.take (i+1))=kj (l.take i)+c.data.length:=by obtain ⟨hk,rfl⟩:=zg.1 h;rw [zz5 hk];simp only [kj,List.foldl_append,List.foldl_cons,List.foldl_nil]
theorem ag9 (l:List ba):∀ k,l.foldl (fun n s=>n+s.data.length) k<=k+gu n9 l:=by
 induction l with
 |nil=>intro k;exact zza _
 |cons a l ih=>
  intro k;have h1:=ih (k+a.data.length);have h2:=D3 Ce a.data;simp only [gu,List.foldr_cons,List.foldl_cons,n9] at h1 ⊢;unfold gu at h2;omega
theorem Nw (l:List ba):kj l<=gu n9 l:=by have:=ag9 l 0;unfold kj;omega
theorem ala {l:List ba} {i:Nat} {c:ba} (h:l.drop i=c::l.drop (i+1)) (e:Int):ov (l.drop i) e=ov (l.drop (i+1)) (if e=0 then mu c else e):=by rw [h];rfl
theorem xk {l:List ba} {i:Nat} {c:ba} (h:l.drop i=c::l.drop (i+1)) (err:Int) (p:Nat->ba->Bool) (e:Int):gz err p i (l.drop i) e=if e≠0 then e else gz err p (i+1) (l.drop (i+1)) (dg (p i c) err e):=by rw [h];rfl
set_option maxHeartbeats 4000000 in
theorem ak8 (z:ay) (hz:bo z):wl PP [gb,eg,i7,ld,lg,lh,j8,nk,rm,nf] 0 (Tryz.f57.body.getD .skip) (c9 PP Tryz.f57.results.toList (fun r st=>(r1 (bb .i64)).get true st.h r=some (fp z))) (cp 0 [bf.val false z]) (bg []):=by
 have hl:=hz.len;have ok:ar PP [gb,eg,i7,ld,lg,lh,j8,nk,rm,nf]:=ar.cons (aq sx) (ar.cons (aq gy) (ar.cons (aq Om) (ar.cons (aq T6) (ar.cons (aq Uz) (ar.cons (aq Ut) (ar.cons (aq Qs) (ar.cons (aq Wy) (ar.cons (aq aeq) (ar.cons (aq Y8) (ar.nil PP))))))))));unfold Tryz.f57;simp only [dy];simp only [↓wR,zT,simprocAttr];refine en (fun r st'=>r = .iw []/\st'=bg [(zZ z),some (.row [zn z.origin,zs z.ak,zi (qc z)] 0 2 146)]) rfl ?_ ?_
 ·refine ct (T:=[gb,eg,i7,ld,lg,lh,j8,nk,rm,nf]) ok mixed Tryz.func94 rfl zK zK zK zK ?_;unfold Tryz.f94;simp only [↓wR,zT,simprocAttr,sh,hz.origin.fit];unfold qc;rw [cw];refine ⟨fun h=>?_,fun h=>?_⟩
  ·have he:dk z.origin≠0:=by simpa using h
   rw [if_pos he];simp only [↓wR,zT,simprocAttr,h,jx,jo,ja]
  have he:dk z.origin=0:=by simpa using h
  rw [if_neg zO];simp only [↓wR,zT,simprocAttr,h,he];refine dq [0,2,25,26,27] (fun (i:Nat)=>[.ptr 1 0,zi (kj (z.ak.take i)),zs z.ak,zi z.ak.length,zi i]) (fun _=>[(zZ z),some (.row [zn z.origin,zs z.ak,zi 0] 0 2 146)]) (fun i=>i<=z.ak.length) (fun i=>z.ak.length - i) 0 (zzb _) zS zS ?_;clear h;intro i hi;have lZ:=Nw (z.ak.take i);have tM:=V8 n9 z.ak i;have hzz:gu n9 z.ak<=16777216:=by unfold bo Mk at hz;omega
  simp only [↓wR,zT,simprocAttr];rw [bh];refine ⟨fun h=>?_,fun h=>?_⟩
  ·obtain ⟨c,hc,aF,hlt⟩:=du (zp h);have hst:=Sb z.ak i c hc;have hcl:=(hz.set c (zm hc)).data.len
   repeat (first|simp only [↓wR,zT,simprocAttr,h,hc]|simp (disch:=omega) only [zW])
   exact ⟨i+1,hlt,zO,by rw [hst];exact zF⟩
  have hin:i=z.ak.length:=zO;rw [hin,zz7] at lZ ⊢;simp only [↓wR,zT,simprocAttr,h];have hd:decide ((kj z.ak:Int)<=2048)=decide (kj z.ak<=2048):=by rw [decide_eq_decide];omega
  rw [hd];refine en (fun r st'=>r = .iw []/\st'=bg [(zZ z),some (.row [zn z.origin,zs z.ak,zi (dg (decide (kj z.ak<=2048)) 3 (0))] 0 2 146)]) rfl ?_ ?_
  ·refine ct (T:=[gb,eg,i7,ld,lg,lh,j8,nk,rm,nf]) ok mixed Tryz.func100 rfl zK zK zK zK ?_;unfold Tryz.f100;simp only [↓wR,zT,simprocAttr];rw [cw];refine ⟨fun aJ=>?_,fun aJ=>?_⟩
   ·have hb:(decide (kj z.ak<=2048))=false:=by simpa only [zyd] using aJ
    have hv:dg (decide (kj z.ak<=2048)) 3 (0)=3:=by unfold dg;rw [if_pos ⟨rfl,hb⟩]
    simp only [↓wR,zT,simprocAttr,aJ,jx,jo,ja]
    try rw [hv]
   ·have hb:(decide (kj z.ak<=2048))=true:=by simpa only [zyh] using aJ
    have hv:dg (decide (kj z.ak<=2048)) 3 (0)=0:=by unfold dg;rw [if_neg (fun q=>by rw [hb] at q;cases q.2)]
    simp only [↓wR,zT,simprocAttr,aJ,jx,jo,ja]
    try rw [hv]
  rintro _ _ ⟨rfl,rfl⟩;simp only [↓wR,zT,simprocAttr,gq];refine dq [0,45,46,47] (fun (x:Nat × Int)=>[.ptr 1 0,zs z.ak,zi z.ak.length,zi x.1]) (fun x=>[(zZ z),some (.row [zn z.origin,zs z.ak,zi x.2] 0 2 146)]) (fun x=>x.1<=z.ak.length/\ov z.ak (dg (decide (kj z.ak<=2048)) 3 0)=ov (z.ak.drop x.1) x.2) (fun x=>z.ak.length - x.1) (0,dg (decide (kj z.ak<=2048)) 3 0) ⟨zzb _,rfl⟩ zS zS ?_;clear h hi hin hd;rintro ⟨i,e⟩ ⟨hi,hx⟩;simp only at hi hx;simp only [↓wR,zT,simprocAttr];rw [bh];refine ⟨fun h=>?_,fun h=>?_⟩
  ·obtain ⟨c,hc,aF,hlt⟩:=du (zp h);rw [ala aF] at hx;have hcs:=hz.set c (zm hc);simp only [↓wR,zT,simprocAttr,h,hc];rw [cf];refine ⟨fun ⟨h1,e1⟩=>?_,fun ⟨h1,e1⟩=>?_⟩
   ·rw [if_pos e1] at hx
    repeat (first|simp only [↓wR,zT,simprocAttr,h1,B8,hcs]|simp (disch:=omega) only [zW])
    exact ⟨(i+1,mu c),⟨hlt,hx⟩,by simp;omega,zF,zF⟩
   ·rw [if_neg e1] at hx
    repeat (first|simp only [↓wR,zT,simprocAttr,h1]|simp (disch:=omega) only [zW])
    exact ⟨(i+1,e),⟨hlt,hx⟩,by simp;omega,zF,zF⟩
  ·rw [eu (zq h)] at hx;simp only [↓wR,zT,simprocAttr,h,jx,jo,ja];rw [hx];rfl
 rintro _ _ ⟨rfl,rfl⟩;simp only [↓wR,zT,simprocAttr,gq];unfold fp;rw [cw];refine ⟨fun h=>?_,fun h=>?_⟩
 ·have he:qc z≠0:=by simpa using h
  rw [if_pos he];simp only [↓wR,zT,simprocAttr,h]
 have he:qc z=0:=by simpa using h
 rw [if_neg zO];simp only [↓wR,zT,simprocAttr,h];clear h he;obtain ⟨e0,bG⟩:∃ e0,qc z=e0:=⟨_,rfl⟩;rw [bG];refine en (fun r st'=>r = .iw []/\st'=bg [(zZ z),some (.row [zn z.origin,zs z.ak,zi (gz 260 (il z) 0 z.ak e0)] 0 2 146)]) rfl ?_ ?_
 ·refine ct (T:=[gb,eg,i7,ld,lg,lh,j8,nk,rm,nf]) ok mixed Tryz.func95 rfl zK zK zK zK ?_;unfold Tryz.f95;simp only [↓wR,zT,simprocAttr];refine dq [0,1,2,12,13,14] (fun (x:Nat × Int)=>[.ptr 1 0,zi 260,.fn (.func 96) [.ptr 1 0] [],zs z.ak,zi z.ak.length,zi x.1]) (fun x=>[(zZ z),some (.row [zn z.origin,zs z.ak,zi x.2] 0 2 146)]) (fun x=>x.1<=z.ak.length/\gz 260 (il z) 0 z.ak e0=gz 260 (il z) x.1 (z.ak.drop x.1) x.2) (fun x=>z.ak.length - x.1) (0,e0) ⟨zzb _,rfl⟩ zS zS ?_;rintro ⟨i,e⟩ ⟨hi,hx⟩;simp only at hi hx;simp only [↓wR,zT,simprocAttr];rw [bh];refine ⟨fun h=>?_,fun h=>?_⟩
  ·obtain ⟨c,hc,aF,hlt⟩:=du (zp h);rw [xk aF] at hx;have hcs:=hz.set c (zm hc);have bE:(0:Int)<=i/\(i:Int)<=z.ak.length:=zO;simp only [↓wR,zT,simprocAttr,h,hc];rw [dh];refine ⟨fun ⟨h1,e1⟩=>?_,fun ⟨h1,e1⟩=>?_⟩
   ·rw [if_pos e1] at hx;simp only [↓wR,zT,simprocAttr,h1,jx,jo,ja];rw [hx]
   ·rw [if_neg zO] at hx;simp only [↓wR,zT,simprocAttr,h1,hcs,hz,bE,Lj];refine en (fun r st'=>r = .iw []/\st'=bg [(zZ z),some (.row [zn z.origin,zs z.ak,zi (dg ((il z) i c) 260 e)] 0 2 146),(zY c)]) rfl ?_ ?_
    ·refine ct (T:=[gb,eg,i7,ld,lg,lh,j8,nk,rm,nf]) ok mixed Tryz.func100 rfl zK zK zK zK ?_;unfold Tryz.f100;simp only [↓wR,zT,simprocAttr,e1];rw [cw];refine ⟨fun aJ=>?_,fun aJ=>?_⟩
     ·have hb:((il z) i c)=false:=by simpa only [zyd] using aJ
      have hv:dg ((il z) i c) 260 0=260:=by unfold dg;rw [if_pos ⟨rfl,hb⟩]
      simp only [↓wR,zT,simprocAttr,aJ,jx,jo,ja]
      try rw [hv]
     ·have hb:((il z) i c)=true:=by simpa only [zyh] using aJ
      have hv:dg ((il z) i c) 260 0=0:=by unfold dg;rw [if_neg (fun q=>by rw [hb] at q;cases q.2)]
      simp only [↓wR,zT,simprocAttr,aJ,jx,jo,ja]
      try rw [hv]
    rintro _ _ ⟨rfl,rfl⟩
    repeat (first|simp only [↓wR,zT,simprocAttr,gq]|simp (disch:=omega) only [zW])
    exact ⟨(i+1,dg ((il z) i c) 260 e),⟨hlt,hx⟩,by simp;omega,zF,zF⟩
  ·rw [eu (zq h)] at hx;simp only [↓wR,zT,simprocAttr,h,jx,jo,ja];rw [hx];rfl
 rintro _ _ ⟨rfl,rfl⟩;rw [<- bG];clear bG;simp only [↓wR,zT,simprocAttr,gq];rw [show gz 260 (il z) 0 z.ak (qc z)=A8 z from rfl];obtain ⟨e0,bG⟩:∃ e0,A8 z=e0:=⟨_,rfl⟩;rw [bG];refine en (fun r st'=>r = .iw []/\st'=bg [(zZ z),some (.row [zn z.origin,zs z.ak,zi (gz 261 (fun _ s=>kh s) 0 z.ak e0)] 0 2 146)]) rfl ?_ ?_
 ·refine ct (T:=[gb,eg,i7,ld,lg,lh,j8,nk,rm,nf]) ok mixed Tryz.func95 rfl zK zK zK zK ?_;unfold Tryz.f95;simp only [↓wR,zT,simprocAttr];refine dq [0,1,2,12,13,14] (fun (x:Nat × Int)=>[.ptr 1 0,zi 261,.sc (.func (.func 97) #[] #[]),zs z.ak,zi z.ak.length,zi x.1]) (fun x=>[(zZ z),some (.row [zn z.origin,zs z.ak,zi x.2] 0 2 146)]) (fun x=>x.1<=z.ak.length/\gz 261 (fun _ s=>kh s) 0 z.ak e0=gz 261 (fun _ s=>kh s) x.1 (z.ak.drop x.1) x.2) (fun x=>z.ak.length - x.1) (0,e0) ⟨zzb _,rfl⟩ zS zS ?_;rintro ⟨i,e⟩ ⟨hi,hx⟩;simp only at hi hx;simp only [↓wR,zT,simprocAttr];rw [bh];refine ⟨fun h=>?_,fun h=>?_⟩
  ·obtain ⟨c,hc,aF,hlt⟩:=du (zp h);rw [xk aF] at hx;have hcs:=hz.set c (zm hc);have bE:(0:Int)<=i/\(i:Int)<=z.ak.length:=zO;simp only [↓wR,zT,simprocAttr,h,hc];rw [dh];refine ⟨fun ⟨h1,e1⟩=>?_,fun ⟨h1,e1⟩=>?_⟩
   ·rw [if_pos e1] at hx;simp only [↓wR,zT,simprocAttr,h1,jx,jo,ja];rw [hx]
   ·rw [if_neg zO] at hx;simp only [↓wR,zT,simprocAttr,h1,hcs,hz,bE,abo];refine en (fun r st'=>r = .iw []/\st'=bg [(zZ z),some (.row [zn z.origin,zs z.ak,zi (dg ((fun _ s=>kh s) i c) 261 e)] 0 2 146),(zY c)]) rfl ?_ ?_
    ·refine ct (T:=[gb,eg,i7,ld,lg,lh,j8,nk,rm,nf]) ok mixed Tryz.func100 rfl zK zK zK zK ?_;unfold Tryz.f100;simp only [↓wR,zT,simprocAttr,e1];rw [cw];refine ⟨fun aJ=>?_,fun aJ=>?_⟩
     ·have hb:((fun _ s=>kh s) i c)=false:=by simpa only [zyd] using aJ
      have hv:dg ((fun _ s=>kh s) i c) 261 0=261:=by unfold dg;rw [if_pos ⟨rfl,hb⟩]
      simp only [↓wR,zT,simprocAttr,aJ,jx,jo,ja]
      try rw [hv]
     ·have hb:((fun _ s=>kh s) i c)=true:=by simpa only [zyh] using aJ
      have hv:dg ((fun _ s=>kh s) i c) 261 0=0:=by unfold dg;rw [if_neg (fun q=>by rw [hb] at q;cases q.2)]
      simp only [↓wR,zT,simprocAttr,aJ,jx,jo,ja]
      try rw [hv]
    rintro _ _ ⟨rfl,rfl⟩
    repeat (first|simp only [↓wR,zT,simprocAttr,gq]|simp (disch:=omega) only [zW])
    exact ⟨(i+1,dg ((fun _ s=>kh s) i c) 261 e),⟨hlt,hx⟩,by simp;omega,zF,zF⟩
  ·rw [eu (zq h)] at hx;simp only [↓wR,zT,simprocAttr,h,jx,jo,ja];rw [hx];rfl
 rintro _ _ ⟨rfl,rfl⟩;rw [<- bG];clear bG;simp only [↓wR,zT,simprocAttr,gq];rw [show gz 261 (fun _ s=>kh s) 0 z.ak (A8 z)=Ir z from rfl];obtain ⟨e0,bG⟩:∃ e0,Ir z=e0:=⟨_,rfl⟩;rw [bG];refine en (fun r st'=>r = .iw []/\st'=bg [(zZ z),some (.row [zn z.origin,zs z.ak,zi (gz 262 (fun _ s=>dj s.owner z.origin) 0 z.ak e0)] 0 2 146)]) rfl ?_ ?_
 ·refine ct (T:=[gb,eg,i7,ld,lg,lh,j8,nk,rm,nf]) ok mixed Tryz.func95 rfl zK zK zK zK ?_;unfold Tryz.f95;simp only [↓wR,zT,simprocAttr];refine dq [0,1,2,12,13,14] (fun (x:Nat × Int)=>[.ptr 1 0,zi 262,.fn (.func 98) [] [.ptr 0 0],zs z.ak,zi z.ak.length,zi x.1]) (fun x=>[(zZ z),some (.row [zn z.origin,zs z.ak,zi x.2] 0 2 146)]) (fun x=>x.1<=z.ak.length/\gz 262 (fun _ s=>dj s.owner z.origin) 0 z.ak e0=gz 262 (fun _ s=>dj s.owner z.origin) x.1 (z.ak.drop x.1) x.2) (fun x=>z.ak.length - x.1) (0,e0) ⟨zzb _,rfl⟩ zS zS ?_;rintro ⟨i,e⟩ ⟨hi,hx⟩;simp only at hi hx;simp only [↓wR,zT,simprocAttr];rw [bh];refine ⟨fun h=>?_,fun h=>?_⟩
  ·obtain ⟨c,hc,aF,hlt⟩:=du (zp h);rw [xk aF] at hx;have hcs:=hz.set c (zm hc);have bE:(0:Int)<=i/\(i:Int)<=z.ak.length:=zO;simp only [↓wR,zT,simprocAttr,h,hc];rw [dh];refine ⟨fun ⟨h1,e1⟩=>?_,fun ⟨h1,e1⟩=>?_⟩
   ·rw [if_pos e1] at hx;simp only [↓wR,zT,simprocAttr,h1,jx,jo,ja];rw [hx]
   ·rw [if_neg zO] at hx;simp only [↓wR,zT,simprocAttr,h1,hcs,hz,bE,Ht];refine en (fun r st'=>r = .iw []/\st'=bg [(zZ z),some (.row [zn z.origin,zs z.ak,zi (dg ((fun _ s=>dj s.owner z.origin) i c) 262 e)] 0 2 146),(zY c)]) rfl ?_ ?_
    ·refine ct (T:=[gb,eg,i7,ld,lg,lh,j8,nk,rm,nf]) ok mixed Tryz.func100 rfl zK zK zK zK ?_;unfold Tryz.f100;simp only [↓wR,zT,simprocAttr,e1];rw [cw];refine ⟨fun aJ=>?_,fun aJ=>?_⟩
     ·have hb:((fun _ s=>dj s.owner z.origin) i c)=false:=by simpa only [zyd] using aJ
      have hv:dg ((fun _ s=>dj s.owner z.origin) i c) 262 0=262:=by unfold dg;rw [if_pos ⟨rfl,hb⟩]
      simp only [↓wR,zT,simprocAttr,aJ,jx,jo,ja]
      try rw [hv]
     ·have hb:((fun _ s=>dj s.owner z.origin) i c)=true:=by simpa only [zyh] using aJ
      have hv:dg ((fun _ s=>dj s.owner z.origin) i c) 262 0=0:=by unfold dg;rw [if_neg (fun q=>by rw [hb] at q;cases q.2)]
      simp only [↓wR,zT,simprocAttr,aJ,jx,jo,ja]
      try rw [hv]
    rintro _ _ ⟨rfl,rfl⟩
    repeat (first|simp only [↓wR,zT,simprocAttr,gq]|simp (disch:=omega) only [zW])
    exact ⟨(i+1,dg ((fun _ s=>dj s.owner z.origin) i c) 262 e),⟨hlt,hx⟩,by simp;omega,zF,zF⟩
  ·rw [eu (zq h)] at hx;simp only [↓wR,zT,simprocAttr,h,jx,jo,ja];rw [hx];rfl
 rintro _ _ ⟨rfl,rfl⟩;rw [<- bG];clear bG;simp only [↓wR,zT,simprocAttr,gq,Q0,hz];rw [show gz 262 (fun _ s=>dj s.owner z.origin) 0 z.ak (Ir z)=rk z from rfl];rw [cf];refine ⟨fun ⟨hs1,yQ⟩=>?_,fun ⟨hs1,yQ⟩=>?_⟩
 ·simp only [↓wR,zT,simprocAttr,hs1];rw [show (((ik z).2:Int) == 1)=(decide ((ik z).1=1) && decide ((ik z).2=1)) from by rw [zp (show (ik z).1=1 by omega),Bool.true_and,zyb];simp;omega];refine en (fun r st'=>r = .iw []/\st'=bg [(zZ z),some (.row [zn z.origin,zs z.ak,zi (dg (decide ((ik z).1=1) && decide ((ik z).2=1)) 263 (rk z))] 0 2 146)]) rfl ?_ ?_
  ·refine ct (T:=[gb,eg,i7,ld,lg,lh,j8,nk,rm,nf]) ok mixed Tryz.func100 rfl zK zK zK zK ?_;unfold Tryz.f100;simp only [↓wR,zT,simprocAttr];rw [cf];refine ⟨fun ⟨bP,eD⟩=>?_,fun ⟨bP,eD⟩=>?_⟩
   ·simp only [↓wR,zT,simprocAttr,bP];rw [cw];refine ⟨fun aJ=>?_,fun aJ=>?_⟩
    ·have hb:(decide ((ik z).1=1) && decide ((ik z).2=1))=false:=by simpa only [zyd] using aJ
     have hv:dg (decide ((ik z).1=1) && decide ((ik z).2=1)) 263 (rk z)=263:=by unfold dg;rw [if_pos ⟨eD,hb⟩]
     simp only [↓wR,zT,simprocAttr,bP,aJ,jx,jo,ja]
     try rw [hv]
    ·have hb:(decide ((ik z).1=1) && decide ((ik z).2=1))=true:=by simpa only [zyh] using aJ
     have hv:dg (decide ((ik z).1=1) && decide ((ik z).2=1)) 263 (rk z)=rk z:=by unfold dg;rw [if_neg (fun q=>by rw [hb] at q;cases q.2)]
     simp only [↓wR,zT,simprocAttr,bP,aJ,jx,jo,ja]
     try rw [hv]
   ·have hv:dg (decide ((ik z).1=1) && decide ((ik z).2=1)) 263 (rk z)=rk z:=by unfold dg;rw [if_neg (fun q=>eD q.1)]
    simp only [↓wR,zT,simprocAttr,bP,jx,jo,ja]
    try rw [hv]
  rintro _ _ ⟨rfl,rfl⟩;rw [show dg (decide ((ik z).1=1) && decide ((ik z).2=1)) 263 (rk z)=m5 z from rfl];simp only [↓wR,zT,simprocAttr,gq];refine ct (T:=[]) (ar.nil PP) mixed Tryz.func78 rfl zK zK zK zK ?_;unfold Tryz.f78;simp only [↓wR,zT,simprocAttr];refine ⟨[1,3,6,45],?_⟩;have hib:Fp PP 131=some (Tryz.f131.ntmps,Tryz.f131.body.getD .skip):=zK;simp only [↓wR,zT,simprocAttr,hib];refine ⟨zK,fun l=>?_⟩;unfold Tryz.f131;simp only [↓wR,zT,simprocAttr];refine Js [0,2,7,8,9] (fun (x:Nat × Bool)=>[.sc (.func (.yield l) #[] #[]),.ptr 4 0,zs z.ak,zi z.ak.length,zi x.1]) (fun x=>[(zZ z),some (.row [zn z.origin,zs z.ak,zi (m5 z)] 0 2 146),some (.row [.sc (.bool (x.2))] 0 2 4),(zZ z),some (.row [.sc (.int .u16 2)] 0 2 50)]) (fun x=>x.1<=z.ak.length/\jm z=(x.2 || N6 z (z.ak.drop x.1))) (fun x=>z.ak.length - x.1) (0,false) ⟨zzb _,by rw [Bool.false_or];rfl⟩ zS zS ?_;rintro ⟨i,b⟩ ⟨hi,hx⟩;simp only at hi hx;simp only [↓wR,zT,simprocAttr];rw [Aq];refine ⟨fun h=>?_,fun h=>?_⟩
  ·obtain ⟨c,hc,aF,hlt⟩:=du h;have hcs:=hz.set c (zm hc);rw [ak7 aF] at hx;simp only [↓wR,zT,simprocAttr,h,hc];rw [Aq];refine ⟨fun h2=>?_,fun h2=>?_⟩
   ·have e2:(c.type.toNat:Int)=2:=by simpa using h2
    rw [zp e2,Bool.true_and] at hx;simp only [↓wR,zT,simprocAttr,h2];refine Cu [0,2,7,8,9,17,19] ?_;simp only [↓wR,zT,simprocAttr,Dr,qa];cases b with
    |true=>
     repeat (first|simp only [↓wR,zT,simprocAttr]|simp (disch:=omega) only [zW])
     exact ⟨(i+1,true),⟨hlt,by rw [hx];rfl⟩,by simp;omega,zF,zF⟩
    |false=>
     repeat (first|simp only [↓wR,zT,simprocAttr,j6,hcs.owner,hz.origin]|simp (disch:=omega) only [zW])
     exact ⟨(i+1,dt c.owner z.origin),⟨hlt,by rw [hx,Bool.false_or]⟩,by simp;omega,zF,zF⟩
   ·have e2:¬ (c.type.toNat:Int)=2:=by simpa using h2
    rw [zq e2,Bool.false_and,Bool.false_or] at hx
    repeat (first|simp only [↓wR,zT,simprocAttr,h2]|simp (disch:=omega) only [zW])
    exact ⟨(i+1,b),⟨hlt,hx⟩,by simp;omega,zF,zF⟩
  rw [eu h] at hx;have hb:b=jm z:=by rw [hx];simp [N6]
  simp only [↓wR,zT,simprocAttr,h];rw [hb];clear h hx hb;refine en (fun r st'=>r = .iw []/\st'=bg [(zZ z),some (.row [zn z.origin,zs z.ak,zi (dg (jm z) 264 (m5 z))] 0 2 146),some (.row [.sc (.bool (jm z))] 0 2 4),(zZ z),some (.row [.sc (.int .u16 2)] 0 2 50)]) rfl ?_ ?_
  ·refine ct (T:=[gb,eg,i7,ld,lg,lh,j8,nk,rm,nf]) ok mixed Tryz.func100 rfl zK zK zK zK ?_;unfold Tryz.f100;simp only [↓wR,zT,simprocAttr];rw [cf];refine ⟨fun ⟨bP,eD⟩=>?_,fun ⟨bP,eD⟩=>?_⟩
   ·simp only [↓wR,zT,simprocAttr,bP];rw [cw];refine ⟨fun aJ=>?_,fun aJ=>?_⟩
    ·have hb:(jm z)=false:=by simpa only [zyd] using aJ
     have hv:dg (jm z) 264 (m5 z)=264:=by unfold dg;rw [if_pos ⟨eD,hb⟩]
     simp only [↓wR,zT,simprocAttr,bP,aJ,jx,jo,ja]
     try rw [hv]
    ·have hb:(jm z)=true:=by simpa only [zyh] using aJ
     have hv:dg (jm z) 264 (m5 z)=m5 z:=by unfold dg;rw [if_neg (fun q=>by rw [hb] at q;cases q.2)]
     simp only [↓wR,zT,simprocAttr,bP,aJ,jx,jo,ja]
     try rw [hv]
   ·have hv:dg (jm z) 264 (m5 z)=m5 z:=by unfold dg;rw [if_neg (fun q=>eD q.1)]
    simp only [↓wR,zT,simprocAttr,bP,jx,jo,ja]
    try rw [hv]
  rintro _ _ ⟨rfl,rfl⟩;rw [show dg (jm z) 264 (m5 z)=A7 z from rfl];simp only [↓wR,zT,simprocAttr,gq];obtain ⟨e0,bG⟩:∃ e0,A7 z=e0:=⟨_,rfl⟩;rw [bG];refine en (fun r st'=>r = .iw []/\st'=bg [(zZ z),some (.row [zn z.origin,zs z.ak,zi (gz 265 (kb z) 0 z.ak e0)] 0 2 146),some (.row [.sc (.bool (jm z))] 0 2 4),(zZ z),some (.row [.sc (.int .u16 2)] 0 2 50)]) rfl ?_ ?_
  ·refine ct (T:=[gb,eg,i7,ld,lg,lh,j8,nk,rm,nf]) ok mixed Tryz.func95 rfl zK zK zK zK ?_;unfold Tryz.f95;simp only [↓wR,zT,simprocAttr];refine dq [0,1,2,12,13,14] (fun (x:Nat × Int)=>[.ptr 1 0,zi 265,.fn (.func 101) [.ptr 1 0] [],zs z.ak,zi z.ak.length,zi x.1]) (fun x=>[(zZ z),some (.row [zn z.origin,zs z.ak,zi x.2] 0 2 146),some (.row [.sc (.bool (jm z))] 0 2 4),(zZ z),some (.row [.sc (.int .u16 2)] 0 2 50)]) (fun x=>x.1<=z.ak.length/\gz 265 (kb z) 0 z.ak e0=gz 265 (kb z) x.1 (z.ak.drop x.1) x.2) (fun x=>z.ak.length - x.1) (0,e0) ⟨zzb _,rfl⟩ zS zS ?_;rintro ⟨i,e⟩ ⟨hi,hx⟩;simp only at hi hx;simp only [↓wR,zT,simprocAttr];rw [bh];refine ⟨fun h=>?_,fun h=>?_⟩
   ·obtain ⟨c,hc,aF,hlt⟩:=du (zp h);rw [xk aF] at hx;have hcs:=hz.set c (zm hc);have bE:(0:Int)<=i/\(i:Int)<=z.ak.length:=zO;simp only [↓wR,zT,simprocAttr,h,hc];rw [dh];refine ⟨fun ⟨h1,e1⟩=>?_,fun ⟨h1,e1⟩=>?_⟩
    ·rw [if_pos e1] at hx;simp only [↓wR,zT,simprocAttr,h1,jx,jo,ja];rw [hx]
    ·rw [if_neg zO] at hx;simp only [↓wR,zT,simprocAttr,h1,hcs,hz,bE,Hq];refine en (fun r st'=>r = .iw []/\st'=bg [(zZ z),some (.row [zn z.origin,zs z.ak,zi (dg ((kb z) i c) 265 e)] 0 2 146),some (.row [.sc (.bool (jm z))] 0 2 4),(zZ z),some (.row [.sc (.int .u16 2)] 0 2 50),(zY c)]) rfl ?_ ?_
     ·refine ct (T:=[gb,eg,i7,ld,lg,lh,j8,nk,rm,nf]) ok mixed Tryz.func100 rfl zK zK zK zK ?_;unfold Tryz.f100;simp only [↓wR,zT,simprocAttr,e1];rw [cw];refine ⟨fun aJ=>?_,fun aJ=>?_⟩
      ·have hb:((kb z) i c)=false:=by simpa only [zyd] using aJ
       have hv:dg ((kb z) i c) 265 0=265:=by unfold dg;rw [if_pos ⟨rfl,hb⟩]
       simp only [↓wR,zT,simprocAttr,aJ,jx,jo,ja]
       try rw [hv]
      ·have hb:((kb z) i c)=true:=by simpa only [zyh] using aJ
       have hv:dg ((kb z) i c) 265 0=0:=by unfold dg;rw [if_neg (fun q=>by rw [hb] at q;cases q.2)]
       simp only [↓wR,zT,simprocAttr,aJ,jx,jo,ja]
       try rw [hv]
     rintro _ _ ⟨rfl,rfl⟩
     repeat (first|simp only [↓wR,zT,simprocAttr,gq]|simp (disch:=omega) only [zW])
     exact ⟨(i+1,dg ((kb z) i c) 265 e),⟨hlt,hx⟩,by simp;omega,zF,zF⟩
   ·rw [eu (zq h)] at hx;simp only [↓wR,zT,simprocAttr,h,jx,jo,ja];rw [hx];rfl
  rintro _ _ ⟨rfl,rfl⟩;rw [<- bG];clear bG;simp only [↓wR,zT,simprocAttr,gq];rw [show gz 265 (kb z) 0 z.ak (A7 z)=A4 z from rfl];obtain ⟨e0,bG⟩:∃ e0,A4 z=e0:=⟨_,rfl⟩;rw [bG];refine en (fun r st'=>r = .iw []/\st'=bg [(zZ z),some (.row [zn z.origin,zs z.ak,zi (gz 266 (fun _ s=>kg s) 0 z.ak e0)] 0 2 146),some (.row [.sc (.bool (jm z))] 0 2 4),(zZ z),some (.row [.sc (.int .u16 2)] 0 2 50)]) rfl ?_ ?_
  ·refine ct (T:=[gb,eg,i7,ld,lg,lh,j8,nk,rm,nf]) ok mixed Tryz.func95 rfl zK zK zK zK ?_;unfold Tryz.f95;simp only [↓wR,zT,simprocAttr];refine dq [0,1,2,12,13,14] (fun (x:Nat × Int)=>[.ptr 1 0,zi 266,.sc (.func (.func 102) #[] #[]),zs z.ak,zi z.ak.length,zi x.1]) (fun x=>[(zZ z),some (.row [zn z.origin,zs z.ak,zi x.2] 0 2 146),some (.row [.sc (.bool (jm z))] 0 2 4),(zZ z),some (.row [.sc (.int .u16 2)] 0 2 50)]) (fun x=>x.1<=z.ak.length/\gz 266 (fun _ s=>kg s) 0 z.ak e0=gz 266 (fun _ s=>kg s) x.1 (z.ak.drop x.1) x.2) (fun x=>z.ak.length - x.1) (0,e0) ⟨zzb _,rfl⟩ zS zS ?_;rintro ⟨i,e⟩ ⟨hi,hx⟩;simp only at hi hx;simp only [↓wR,zT,simprocAttr];rw [bh];refine ⟨fun h=>?_,fun h=>?_⟩
   ·obtain ⟨c,hc,aF,hlt⟩:=du (zp h);rw [xk aF] at hx;have hcs:=hz.set c (zm hc);have bE:(0:Int)<=i/\(i:Int)<=z.ak.length:=zO;simp only [↓wR,zT,simprocAttr,h,hc];rw [dh];refine ⟨fun ⟨h1,e1⟩=>?_,fun ⟨h1,e1⟩=>?_⟩
    ·rw [if_pos e1] at hx;simp only [↓wR,zT,simprocAttr,h1,jx,jo,ja];rw [hx]
    ·rw [if_neg zO] at hx;simp only [↓wR,zT,simprocAttr,h1,hcs,hz,bE,Mb];refine en (fun r st'=>r = .iw []/\st'=bg [(zZ z),some (.row [zn z.origin,zs z.ak,zi (dg ((fun _ s=>kg s) i c) 266 e)] 0 2 146),some (.row [.sc (.bool (jm z))] 0 2 4),(zZ z),some (.row [.sc (.int .u16 2)] 0 2 50),(zY c)]) rfl ?_ ?_
     ·refine ct (T:=[gb,eg,i7,ld,lg,lh,j8,nk,rm,nf]) ok mixed Tryz.func100 rfl zK zK zK zK ?_;unfold Tryz.f100;simp only [↓wR,zT,simprocAttr,e1];rw [cw];refine ⟨fun aJ=>?_,fun aJ=>?_⟩
      ·have hb:((fun _ s=>kg s) i c)=false:=by simpa only [zyd] using aJ
       have hv:dg ((fun _ s=>kg s) i c) 266 0=266:=by unfold dg;rw [if_pos ⟨rfl,hb⟩]
       simp only [↓wR,zT,simprocAttr,aJ,jx,jo,ja]
       try rw [hv]
      ·have hb:((fun _ s=>kg s) i c)=true:=by simpa only [zyh] using aJ
       have hv:dg ((fun _ s=>kg s) i c) 266 0=0:=by unfold dg;rw [if_neg (fun q=>by rw [hb] at q;cases q.2)]
       simp only [↓wR,zT,simprocAttr,aJ,jx,jo,ja]
       try rw [hv]
     rintro _ _ ⟨rfl,rfl⟩
     repeat (first|simp only [↓wR,zT,simprocAttr,gq]|simp (disch:=omega) only [zW])
     exact ⟨(i+1,dg ((fun _ s=>kg s) i c) 266 e),⟨hlt,hx⟩,by simp;omega,zF,zF⟩
   ·rw [eu (zq h)] at hx;simp only [↓wR,zT,simprocAttr,h,jx,jo,ja];rw [hx];rfl
  rintro _ _ ⟨rfl,rfl⟩;rw [<- bG];clear bG;simp only [↓wR,zT,simprocAttr,gq];rw [show gz 266 (fun _ s=>kg s) 0 z.ak (A4 z)=Gl z from rfl];obtain ⟨e0,bG⟩:∃ e0,Gl z=e0:=⟨_,rfl⟩;rw [bG];refine en (fun r st'=>r = .iw []/\st'=bg [(zZ z),some (.row [zn z.origin,zs z.ak,zi (gz 267 (fun _ s=>nc z s) 0 z.ak e0)] 0 2 146),some (.row [.sc (.bool (jm z))] 0 2 4),(zZ z),some (.row [.sc (.int .u16 2)] 0 2 50)]) rfl ?_ ?_
  ·refine ct (T:=[gb,eg,i7,ld,lg,lh,j8,nk,rm,nf]) ok mixed Tryz.func95 rfl zK zK zK zK ?_;unfold Tryz.f95;simp only [↓wR,zT,simprocAttr];refine dq [0,1,2,12,13,14] (fun (x:Nat × Int)=>[.ptr 1 0,zi 267,.fn (.func 103) [] [.ptr 0 0],zs z.ak,zi z.ak.length,zi x.1]) (fun x=>[(zZ z),some (.row [zn z.origin,zs z.ak,zi x.2] 0 2 146),some (.row [.sc (.bool (jm z))] 0 2 4),(zZ z),some (.row [.sc (.int .u16 2)] 0 2 50)]) (fun x=>x.1<=z.ak.length/\gz 267 (fun _ s=>nc z s) 0 z.ak e0=gz 267 (fun _ s=>nc z s) x.1 (z.ak.drop x.1) x.2) (fun x=>z.ak.length - x.1) (0,e0) ⟨zzb _,rfl⟩ zS zS ?_;rintro ⟨i,e⟩ ⟨hi,hx⟩;simp only at hi hx;simp only [↓wR,zT,simprocAttr];rw [bh];refine ⟨fun h=>?_,fun h=>?_⟩
   ·obtain ⟨c,hc,aF,hlt⟩:=du (zp h);rw [xk aF] at hx;have hcs:=hz.set c (zm hc);have bE:(0:Int)<=i/\(i:Int)<=z.ak.length:=zO;simp only [↓wR,zT,simprocAttr,h,hc];rw [dh];refine ⟨fun ⟨h1,e1⟩=>?_,fun ⟨h1,e1⟩=>?_⟩
    ·rw [if_pos e1] at hx;simp only [↓wR,zT,simprocAttr,h1,jx,jo,ja];rw [hx]
    ·rw [if_neg zO] at hx;simp only [↓wR,zT,simprocAttr,h1,hcs,hz,bE,Su];refine en (fun r st'=>r = .iw []/\st'=bg [(zZ z),some (.row [zn z.origin,zs z.ak,zi (dg ((fun _ s=>nc z s) i c) 267 e)] 0 2 146),some (.row [.sc (.bool (jm z))] 0 2 4),(zZ z),some (.row [.sc (.int .u16 2)] 0 2 50),(zY c)]) rfl ?_ ?_
     ·refine ct (T:=[gb,eg,i7,ld,lg,lh,j8,nk,rm,nf]) ok mixed Tryz.func100 rfl zK zK zK zK ?_;unfold Tryz.f100;simp only [↓wR,zT,simprocAttr,e1];rw [cw];refine ⟨fun aJ=>?_,fun aJ=>?_⟩
      ·have hb:((fun _ s=>nc z s) i c)=false:=by simpa only [zyd] using aJ
       have hv:dg ((fun _ s=>nc z s) i c) 267 0=267:=by unfold dg;rw [if_pos ⟨rfl,hb⟩]
       simp only [↓wR,zT,simprocAttr,aJ,jx,jo,ja]
       try rw [hv]
      ·have hb:((fun _ s=>nc z s) i c)=true:=by simpa only [zyh] using aJ
       have hv:dg ((fun _ s=>nc z s) i c) 267 0=0:=by unfold dg;rw [if_neg (fun q=>by rw [hb] at q;cases q.2)]
       simp only [↓wR,zT,simprocAttr,aJ,jx,jo,ja]
       try rw [hv]
     rintro _ _ ⟨rfl,rfl⟩
     repeat (first|simp only [↓wR,zT,simprocAttr,gq]|simp (disch:=omega) only [zW])
     exact ⟨(i+1,dg ((fun _ s=>nc z s) i c) 267 e),⟨hlt,hx⟩,by simp;omega,zF,zF⟩
   ·rw [eu (zq h)] at hx;simp only [↓wR,zT,simprocAttr,h,jx,jo,ja];rw [hx];rfl
  rintro _ _ ⟨rfl,rfl⟩;rw [<- bG];clear bG;simp only [↓wR,zT,simprocAttr,gq];rfl
 ·simp only [↓wR,zT,simprocAttr,hs1];have xQ:(decide ((ik z).1=1) && decide ((ik z).2=1))=false:=by rw [zq (show ¬ (ik z).1=1 by omega),Bool.false_and]
  refine en (fun r st'=>r = .iw []/\st'=bg [(zZ z),some (.row [zn z.origin,zs z.ak,zi (dg (decide ((ik z).1=1) && decide ((ik z).2=1)) 263 (rk z))] 0 2 146)]) rfl ?_ ?_
  ·refine ct (T:=[gb,eg,i7,ld,lg,lh,j8,nk,rm,nf]) ok mixed Tryz.func100 rfl zK zK zK zK ?_;unfold Tryz.f100;simp only [↓wR,zT,simprocAttr];rw [cf];refine ⟨fun ⟨bP,eD⟩=>?_,fun ⟨bP,eD⟩=>?_⟩
   ·have hv:dg (decide ((ik z).1=1) && decide ((ik z).2=1)) 263 (rk z)=263:=by unfold dg;rw [if_pos ⟨eD,xQ⟩]
    simp only [↓wR,zT,simprocAttr,bP,jx,jo,ja]
    try rw [hv]
   ·have hv:dg (decide ((ik z).1=1) && decide ((ik z).2=1)) 263 (rk z)=rk z:=by unfold dg;rw [if_neg (fun q=>eD q.1)]
    simp only [↓wR,zT,simprocAttr,bP,jx,jo,ja]
    try rw [hv]
  rintro _ _ ⟨rfl,rfl⟩;rw [show dg (decide ((ik z).1=1) && decide ((ik z).2=1)) 263 (rk z)=m5 z from rfl];simp only [↓wR,zT,simprocAttr,gq];refine ct (T:=[]) (ar.nil PP) mixed Tryz.func78 rfl zK zK zK zK ?_;unfold Tryz.f78;simp only [↓wR,zT,simprocAttr];refine ⟨[1,3,6,45],?_⟩;have hib:Fp PP 131=some (Tryz.f131.ntmps,Tryz.f131.body.getD .skip):=zK;simp only [↓wR,zT,simprocAttr,hib];refine ⟨zK,fun l=>?_⟩;unfold Tryz.f131;simp only [↓wR,zT,simprocAttr];refine Js [0,2,7,8,9] (fun (x:Nat × Bool)=>[.sc (.func (.yield l) #[] #[]),.ptr 4 0,zs z.ak,zi z.ak.length,zi x.1]) (fun x=>[(zZ z),some (.row [zn z.origin,zs z.ak,zi (m5 z)] 0 2 146),some (.row [.sc (.bool (x.2))] 0 2 4),(zZ z),some (.row [.sc (.int .u16 2)] 0 2 50)]) (fun x=>x.1<=z.ak.length/\jm z=(x.2 || N6 z (z.ak.drop x.1))) (fun x=>z.ak.length - x.1) (0,false) ⟨zzb _,by rw [Bool.false_or];rfl⟩ zS zS ?_;rintro ⟨i,b⟩ ⟨hi,hx⟩;simp only at hi hx;simp only [↓wR,zT,simprocAttr];rw [Aq];refine ⟨fun h=>?_,fun h=>?_⟩
  ·obtain ⟨c,hc,aF,hlt⟩:=du h;have hcs:=hz.set c (zm hc);rw [ak7 aF] at hx;simp only [↓wR,zT,simprocAttr,h,hc];rw [Aq];refine ⟨fun h2=>?_,fun h2=>?_⟩
   ·have e2:(c.type.toNat:Int)=2:=by simpa using h2
    rw [zp e2,Bool.true_and] at hx;simp only [↓wR,zT,simprocAttr,h2];refine Cu [0,2,7,8,9,17,19] ?_;simp only [↓wR,zT,simprocAttr,Dr,qa];cases b with
    |true=>
     repeat (first|simp only [↓wR,zT,simprocAttr]|simp (disch:=omega) only [zW])
     exact ⟨(i+1,true),⟨hlt,by rw [hx];rfl⟩,by simp;omega,zF,zF⟩
    |false=>
     repeat (first|simp only [↓wR,zT,simprocAttr,j6,hcs.owner,hz.origin]|simp (disch:=omega) only [zW])
     exact ⟨(i+1,dt c.owner z.origin),⟨hlt,by rw [hx,Bool.false_or]⟩,by simp;omega,zF,zF⟩
   ·have e2:¬ (c.type.toNat:Int)=2:=by simpa using h2
    rw [zq e2,Bool.false_and,Bool.false_or] at hx
    repeat (first|simp only [↓wR,zT,simprocAttr,h2]|simp (disch:=omega) only [zW])
    exact ⟨(i+1,b),⟨hlt,hx⟩,by simp;omega,zF,zF⟩
  rw [eu h] at hx;have hb:b=jm z:=by rw [hx];simp [N6]
  simp only [↓wR,zT,simprocAttr,h];rw [hb];clear h hx hb;refine en (fun r st'=>r = .iw []/\st'=bg [(zZ z),some (.row [zn z.origin,zs z.ak,zi (dg (jm z) 264 (m5 z))] 0 2 146),some (.row [.sc (.bool (jm z))] 0 2 4),(zZ z),some (.row [.sc (.int .u16 2)] 0 2 50)]) rfl ?_ ?_
  ·refine ct (T:=[gb,eg,i7,ld,lg,lh,j8,nk,rm,nf]) ok mixed Tryz.func100 rfl zK zK zK zK ?_;unfold Tryz.f100;simp only [↓wR,zT,simprocAttr];rw [cf];refine ⟨fun ⟨bP,eD⟩=>?_,fun ⟨bP,eD⟩=>?_⟩
   ·simp only [↓wR,zT,simprocAttr,bP];rw [cw];refine ⟨fun aJ=>?_,fun aJ=>?_⟩
    ·have hb:(jm z)=false:=by simpa only [zyd] using aJ
     have hv:dg (jm z) 264 (m5 z)=264:=by unfold dg;rw [if_pos ⟨eD,hb⟩]
     simp only [↓wR,zT,simprocAttr,bP,aJ,jx,jo,ja]
     try rw [hv]
    ·have hb:(jm z)=true:=by simpa only [zyh] using aJ
     have hv:dg (jm z) 264 (m5 z)=m5 z:=by unfold dg;rw [if_neg (fun q=>by rw [hb] at q;cases q.2)]
     simp only [↓wR,zT,simprocAttr,bP,aJ,jx,jo,ja]
     try rw [hv]
   ·have hv:dg (jm z) 264 (m5 z)=m5 z:=by unfold dg;rw [if_neg (fun q=>eD q.1)]
    simp only [↓wR,zT,simprocAttr,bP,jx,jo,ja]
    try rw [hv]
  rintro _ _ ⟨rfl,rfl⟩;rw [show dg (jm z) 264 (m5 z)=A7 z from rfl];simp only [↓wR,zT,simprocAttr,gq];obtain ⟨e0,bG⟩:∃ e0,A7 z=e0:=⟨_,rfl⟩;rw [bG];refine en (fun r st'=>r = .iw []/\st'=bg [(zZ z),some (.row [zn z.origin,zs z.ak,zi (gz 265 (kb z) 0 z.ak e0)] 0 2 146),some (.row [.sc (.bool (jm z))] 0 2 4),(zZ z),some (.row [.sc (.int .u16 2)] 0 2 50)]) rfl ?_ ?_
  ·refine ct (T:=[gb,eg,i7,ld,lg,lh,j8,nk,rm,nf]) ok mixed Tryz.func95 rfl zK zK zK zK ?_;unfold Tryz.f95;simp only [↓wR,zT,simprocAttr];refine dq [0,1,2,12,13,14] (fun (x:Nat × Int)=>[.ptr 1 0,zi 265,.fn (.func 101) [.ptr 1 0] [],zs z.ak,zi z.ak.length,zi x.1]) (fun x=>[(zZ z),some (.row [zn z.origin,zs z.ak,zi x.2] 0 2 146),some (.row [.sc (.bool (jm z))] 0 2 4),(zZ z),some (.row [.sc (.int .u16 2)] 0 2 50)]) (fun x=>x.1<=z.ak.length/\gz 265 (kb z) 0 z.ak e0=gz 265 (kb z) x.1 (z.ak.drop x.1) x.2) (fun x=>z.ak.length - x.1) (0,e0) ⟨zzb _,rfl⟩ zS zS ?_;rintro ⟨i,e⟩ ⟨hi,hx⟩;simp only at hi hx;simp only [↓wR,zT,simprocAttr];rw [bh];refine ⟨fun h=>?_,fun h=>?_⟩
   ·obtain ⟨c,hc,aF,hlt⟩:=du (zp h);rw [xk aF] at hx;have hcs:=hz.set c (zm hc);have bE:(0:Int)<=i/\(i:Int)<=z.ak.length:=zO;simp only [↓wR,zT,simprocAttr,h,hc];rw [dh];refine ⟨fun ⟨h1,e1⟩=>?_,fun ⟨h1,e1⟩=>?_⟩
    ·rw [if_pos e1] at hx;simp only [↓wR,zT,simprocAttr,h1,jx,jo,ja];rw [hx]
    ·rw [if_neg zO] at hx;simp only [↓wR,zT,simprocAttr,h1,hcs,hz,bE,Hq];refine en (fun r st'=>r = .iw []/\st'=bg [(zZ z),some (.row [zn z.origin,zs z.ak,zi (dg ((kb z) i c) 265 e)] 0 2 146),some (.row [.sc (.bool (jm z))] 0 2 4),(zZ z),some (.row [.sc (.int .u16 2)] 0 2 50),(zY c)]) rfl ?_ ?_
     ·refine ct (T:=[gb,eg,i7,ld,lg,lh,j8,nk,rm,nf]) ok mixed Tryz.func100 rfl zK zK zK zK ?_;unfold Tryz.f100;simp only [↓wR,zT,simprocAttr,e1];rw [cw];refine ⟨fun aJ=>?_,fun aJ=>?_⟩
      ·have hb:((kb z) i c)=false:=by simpa only [zyd] using aJ
       have hv:dg ((kb z) i c) 265 0=265:=by unfold dg;rw [if_pos ⟨rfl,hb⟩]
       simp only [↓wR,zT,simprocAttr,aJ,jx,jo,ja]
       try rw [hv]
      ·have hb:((kb z) i c)=true:=by simpa only [zyh] using aJ
       have hv:dg ((kb z) i c) 265 0=0:=by unfold dg;rw [if_neg (fun q=>by rw [hb] at q;cases q.2)]
       simp only [↓wR,zT,simprocAttr,aJ,jx,jo,ja]
       try rw [hv]
     rintro _ _ ⟨rfl,rfl⟩
     repeat (first|simp only [↓wR,zT,simprocAttr,gq]|simp (disch:=omega) only [zW])
     exact ⟨(i+1,dg ((kb z) i c) 265 e),⟨hlt,hx⟩,by simp;omega,zF,zF⟩
   ·rw [eu (zq h)] at hx;simp only [↓wR,zT,simprocAttr,h,jx,jo,ja];rw [hx];rfl
  rintro _ _ ⟨rfl,rfl⟩;rw [<- bG];clear bG;simp only [↓wR,zT,simprocAttr,gq];rw [show gz 265 (kb z) 0 z.ak (A7 z)=A4 z from rfl];obtain ⟨e0,bG⟩:∃ e0,A4 z=e0:=⟨_,rfl⟩;rw [bG];refine en (fun r st'=>r = .iw []/\st'=bg [(zZ z),some (.row [zn z.origin,zs z.ak,zi (gz 266 (fun _ s=>kg s) 0 z.ak e0)] 0 2 146),some (.row [.sc (.bool (jm z))] 0 2 4),(zZ z),some (.row [.sc (.int .u16 2)] 0 2 50)]) rfl ?_ ?_
  ·refine ct (T:=[gb,eg,i7,ld,lg,lh,j8,nk,rm,nf]) ok mixed Tryz.func95 rfl zK zK zK zK ?_;unfold Tryz.f95;simp only [↓wR,zT,simprocAttr];refine dq [0,1,2,12,13,14] (fun (x:Nat × Int)=>[.ptr 1 0,zi 266,.sc (.func (.func 102) #[] #[]),zs z.ak,zi z.ak.length,zi x.1]) (fun x=>[(zZ z),some (.row [zn z.origin,zs z.ak,zi x.2] 0 2 146),some (.row [.sc (.bool (jm z))] 0 2 4),(zZ z),some (.row [.sc (.int .u16 2)] 0 2 50)]) (fun x=>x.1<=z.ak.length/\gz 266 (fun _ s=>kg s) 0 z.ak e0=gz 266 (fun _ s=>kg s) x.1 (z.ak.drop x.1) x.2) (fun x=>z.ak.length - x.1) (0,e0) ⟨zzb _,rfl⟩ zS zS ?_;rintro ⟨i,e⟩ ⟨hi,hx⟩;simp only at hi hx;simp only [↓wR,zT,simprocAttr];rw [bh];refine ⟨fun h=>?_,fun h=>?_⟩
   ·obtain ⟨c,hc,aF,hlt⟩:=du (zp h);rw [xk aF] at hx;have hcs:=hz.set c (zm hc);have bE:(0:Int)<=i/\(i:Int)<=z.ak.length:=zO;simp only [↓wR,zT,simprocAttr,h,hc];rw [dh];refine ⟨fun ⟨h1,e1⟩=>?_,fun ⟨h1,e1⟩=>?_⟩
    ·rw [if_pos e1] at hx;simp only [↓wR,zT,simprocAttr,h1,jx,jo,ja];rw [hx]
    ·rw [if_neg zO] at hx;simp only [↓wR,zT,simprocAttr,h1,hcs,hz,bE,Mb];refine en (fun r st'=>r = .iw []/\st'=bg [(zZ z),some (.row [zn z.origin,zs z.ak,zi (dg ((fun _ s=>kg s) i c) 266 e)] 0 2 146),some (.row [.sc (.bool (jm z))] 0 2 4),(zZ z),some (.row [.sc (.int .u16 2)] 0 2 50),(zY c)]) rfl ?_ ?_
     ·refine ct (T:=[gb,eg,i7,ld,lg,lh,j8,nk,rm,nf]) ok mixed Tryz.func100 rfl zK zK zK zK ?_;unfold Tryz.f100;simp only [↓wR,zT,simprocAttr,e1];rw [cw];refine ⟨fun aJ=>?_,fun aJ=>?_⟩
      ·have hb:((fun _ s=>kg s) i c)=false:=by simpa only [zyd] using aJ
       have hv:dg ((fun _ s=>kg s) i c) 266 0=266:=by unfold dg;rw [if_pos ⟨rfl,hb⟩]
       simp only [↓wR,zT,simprocAttr,aJ,jx,jo,ja]
       try rw [hv]
      ·have hb:((fun _ s=>kg s) i c)=true:=by simpa only [zyh] using aJ
       have hv:dg ((fun _ s=>kg s) i c) 266 0=0:=by unfold dg;rw [if_neg (fun q=>by rw [hb] at q;cases q.2)]
       simp only [↓wR,zT,simprocAttr,aJ,jx,jo,ja]
       try rw [hv]
     rintro _ _ ⟨rfl,rfl⟩
     repeat (first|simp only [↓wR,zT,simprocAttr,gq]|simp (disch:=omega) only [zW])
     exact ⟨(i+1,dg ((fun _ s=>kg s) i c) 266 e),⟨hlt,hx⟩,by simp;omega,zF,zF⟩
   ·rw [eu (zq h)] at hx;simp only [↓wR,zT,simprocAttr,h,jx,jo,ja];rw [hx];rfl
  rintro _ _ ⟨rfl,rfl⟩;rw [<- bG];clear bG;simp only [↓wR,zT,simprocAttr,gq];rw [show gz 266 (fun _ s=>kg s) 0 z.ak (A4 z)=Gl z from rfl];obtain ⟨e0,bG⟩:∃ e0,Gl z=e0:=⟨_,rfl⟩;rw [bG];refine en (fun r st'=>r = .iw []/\st'=bg [(zZ z),some (.row [zn z.origin,zs z.ak,zi (gz 267 (fun _ s=>nc z s) 0 z.ak e0)] 0 2 146),some (.row [.sc (.bool (jm z))] 0 2 4),(zZ z),some (.row [.sc (.int .u16 2)] 0 2 50)]) rfl ?_ ?_
  ·refine ct (T:=[gb,eg,i7,ld,lg,lh,j8,nk,rm,nf]) ok mixed Tryz.func95 rfl zK zK zK zK ?_;unfold Tryz.f95;simp only [↓wR,zT,simprocAttr];refine dq [0,1,2,12,13,14] (fun (x:Nat × Int)=>[.ptr 1 0,zi 267,.fn (.func 103) [] [.ptr 0 0],zs z.ak,zi z.ak.length,zi x.1]) (fun x=>[(zZ z),some (.row [zn z.origin,zs z.ak,zi x.2] 0 2 146),some (.row [.sc (.bool (jm z))] 0 2 4),(zZ z),some (.row [.sc (.int .u16 2)] 0 2 50)]) (fun x=>x.1<=z.ak.length/\gz 267 (fun _ s=>nc z s) 0 z.ak e0=gz 267 (fun _ s=>nc z s) x.1 (z.ak.drop x.1) x.2) (fun x=>z.ak.length - x.1) (0,e0) ⟨zzb _,rfl⟩ zS zS ?_;rintro ⟨i,e⟩ ⟨hi,hx⟩;simp only at hi hx;simp only [↓wR,zT,simprocAttr];rw [bh];refine ⟨fun h=>?_,fun h=>?_⟩
   ·obtain ⟨c,hc,aF,hlt⟩:=du (zp h);rw [xk aF] at hx;have hcs:=hz.set c (zm hc);have bE:(0:Int)<=i/\(i:Int)<=z.ak.length:=zO;simp only [↓wR,zT,simprocAttr,h,hc];rw [dh];refine ⟨fun ⟨h1,e1⟩=>?_,fun ⟨h1,e1⟩=>?_⟩
    ·rw [if_pos e1] at hx;simp only [↓wR,zT,simprocAttr,h1,jx,jo,ja];rw [hx]
    ·rw [if_neg zO] at hx;simp only [↓wR,zT,simprocAttr,h1,hcs,hz,bE,Su];refine en (fun r st'=>r = .iw []/\st'=bg [(zZ z),some (.row [zn z.origin,zs z.ak,zi (dg ((fun _ s=>nc z s) i c) 267 e)] 0 2 146),some (.row [.sc (.bool (jm z))] 0 2 4),(zZ z),some (.row [.sc (.int .u16 2)] 0 2 50),(zY c)]) rfl ?_ ?_
     ·refine ct (T:=[gb,eg,i7,ld,lg,lh,j8,nk,rm,nf]) ok mixed Tryz.func100 rfl zK zK zK zK ?_;unfold Tryz.f100;simp only [↓wR,zT,simprocAttr,e1];rw [cw];refine ⟨fun aJ=>?_,fun aJ=>?_⟩
      ·have hb:((fun _ s=>nc z s) i c)=false:=by simpa only [zyd] using aJ
       have hv:dg ((fun _ s=>nc z s) i c) 267 0=267:=by unfold dg;rw [if_pos ⟨rfl,hb⟩]
       simp only [↓wR,zT,simprocAttr,aJ,jx,jo,ja]
       try rw [hv]
      ·have hb:((fun _ s=>nc z s) i c)=true:=by simpa only [zyh] using aJ
       have hv:dg ((fun _ s=>nc z s) i c) 267 0=0:=by unfold dg;rw [if_neg (fun q=>by rw [hb] at q;cases q.2)]
       simp only [↓wR,zT,simprocAttr,aJ,jx,jo,ja]
       try rw [hv]
     rintro _ _ ⟨rfl,rfl⟩
     repeat (first|simp only [↓wR,zT,simprocAttr,gq]|simp (disch:=omega) only [zW])
     exact ⟨(i+1,dg ((fun _ s=>nc z s) i c) 267 e),⟨hlt,hx⟩,by simp;omega,zF,zF⟩
   ·rw [eu (zq h)] at hx;simp only [↓wR,zT,simprocAttr,h,jx,jo,ja];rw [hx];rfl
  rintro _ _ ⟨rfl,rfl⟩;rw [<- bG];clear bG;simp only [↓wR,zT,simprocAttr,gq];rfl
noncomputable def Lz (x:ay × Unit):Option AV:=if bo x.1 then some ((r1 (bb .i64)).E true (fp x.1)) else none
theorem aoo (x:ay × Unit) (r:AV) (h:Lz x=some r):bj PP 57 ((aC bf a0).E x) r:=by obtain ⟨hc,rfl⟩:=zI h;exact az (ar.cons (aq sx) (ar.cons (aq gy) (ar.cons (aq Om) (ar.cons (aq T6) (ar.cons (aq Uz) (ar.cons (aq Ut) (ar.cons (aq Qs) (ar.cons (aq Wy) (ar.cons (aq aeq) (ar.cons (aq Y8) (ar.nil PP))))))))))) Tryz.func57 zK zK zK zL (r1 (bb .i64)) true (fp x.1) (ak8 x.1 hc)
noncomputable abbrev aIc:zE:=(57,true,cx (aC bf a0) Lz)
end Go.Proofs.YtjagjbceegbaiaaGreat
end
section
namespace Go.Proofs.YtjagjbceegbaiaaGreat
open Go.Vm
theorem Ah {err:Int} (he:err≠0) (p:Nat->ba->Bool):∀ (l:List ba) (i:Nat) (e:Int),gz err p i l e=0->e=0/\∀ k s,l[k]? = some s->p (i+k) s=true:=by
 intro l
 induction l with
 |nil=>intro i e h;exact ⟨h,fun k s hs=>by simp at hs⟩
 |cons a l ih=>
  intro i e h;rw [gz] at h
  split at h
  ·contradiction
  ·rename_i h0;have h0:e=0:=zO;obtain ⟨h1,h2⟩:=ih (i+1) _ h;refine ⟨h0,fun k s hs=>?_⟩;cases k with
   |zero=>
    simp at hs;subst hs;cases hp:p i a with
    |true=>simp [hp]
    |false=>rw [dg,if_pos ⟨h0,hp⟩] at h1;exact (he h1).elim
   |succ k=>
    have:=h2 k s (by simpa using hs)
    rwa [show i+1+k=i+(k+1) from by omega] at this
theorem Zu {b:Bool} {err e:Int} (he:err≠0) (h:dg b err e=0):e=0/\b=true:=by
 unfold dg at h
 split at h
 ·exact (he h).elim
 ·rename_i hn;refine ⟨h,?_⟩;cases b with
  |true=>rfl
  |false=>exact (hn ⟨h,rfl⟩).elim
structure G2 (z:ay):Prop where
 first:qc z=0
 aJe:∀ k s,z.ak[k]? = some s->il z k s=true
 cls:∀ s ∈ z.ak,kh s=true
 inside:∀ s ∈ z.ak,dj s.owner z.origin=true
 aJ6:(ik z).1=1/\(ik z).2=1
 BF:jm z=true
 alone:∀ k s,z.ak[k]? = some s->kb z k s=true
 star:∀ s ∈ z.ak,kg s=true
 AD:∀ s ∈ z.ak,nc z s=true
theorem Co {z:ay} (h:fp z=0):G2 z:=by
 unfold fp at h
 split at h
 ·contradiction
 rename_i h0;obtain ⟨h7,p8⟩:=Ah (by decide) _ _ _ _ h;obtain ⟨h6,p7⟩:=Ah (by decide) _ _ _ _ h7;obtain ⟨h5,p6⟩:=Ah (by decide) _ _ _ _ h6;obtain ⟨h4,p5⟩:=Zu (by decide) h5;obtain ⟨h3,p4⟩:=Zu (by decide) h4;obtain ⟨h2,p3⟩:=Ah (by decide) _ _ _ _ h3;obtain ⟨h1,p2⟩:=Ah (by decide) _ _ _ _ h2;obtain ⟨_,p1⟩:=Ah (by decide) _ _ _ _ h1;have mem:∀ (p:ba->Bool),(∀ k s,z.ak[k]? = some s->p s=true)->∀ s ∈ z.ak,p s=true:=fun p hp s hs=>by obtain ⟨k,hk,rfl⟩:=List.getElem_of_mem hs;exact hp k _ (zh hk)
 simp only [zzh,decide_eq_true_eq] at p4;exact ⟨zO,fun k s hs=>by simpa using p1 k s hs,mem _ p2,mem _ p3,p4,p5,fun k s hs=>by simpa using p6 k s hs,mem _ p7,mem _ p8⟩
theorem ur {a b:Name}:dt a b=true↔fh a=fh b:=by simp [dt]
theorem Ak {a b:Name}:dj a b=true↔fh b <:+ fh a:=by simp [dj]
theorem atn {a b:Name} (h:dt a b=true):dj a b=true:=Ak.2 (by rw [ur.1 h];exact List.suffix_refl _)
theorem aoq {a b c:Name} (h1:dj a b=true) (h2:dj b c=true):dj a c=true:=Ak.2 ((Ak.1 h2).trans (Ak.1 h1))
theorem aoe {a a' b:Name} (h:dt a a'=true):dj a b=dj a' b:=by simp only [dj,ur.1 h]
theorem Sk:∀ a:List UInt8,Lib.compareBytes a a=0
 | []=>rfl
 |a::r=>by rw [Lib.compareBytes,if_neg (UInt8.lt_irrefl a),if_neg (UInt8.lt_irrefl a)];exact Sk r
theorem ab2:∀ a b:List UInt8,Lib.compareBytes a b=0->a=b
 | [],[],_=>rfl
 | [],_::_,h=>by cases h
 |_::_,[],h=>by cases h
 |a::r,b::q,h=>by
  rw [Lib.compareBytes] at h
  split at h
  ·cases h
  ·rename_i h1
   split at h
   ·cases h
   ·rename_i h2;rw [UInt8.lt_iff_toNat_lt] at h1 h2;rw [UInt8.toNat_inj.1 (show a.toNat=b.toNat by omega),ab2 r q h]
theorem alj:∀ a b c:List UInt8,Lib.compareBytes a b<0->Lib.compareBytes b c<0->Lib.compareBytes a c<0
 |_,[],[],_,h=>by cases h
 |_,_::_,[],_,h=>by cases h
 | [],_,_::_,_,_=>by show (-1:Int)<0;decide
 |_::_,[],_::_,h,_=>by cases h
 |a::r,b::q,c::p,h1,h2=>by
  have ih:=alj r q p;rw [Lib.compareBytes] at h1 h2 ⊢;simp only [UInt8.lt_iff_toNat_lt] at h1 h2 ⊢
  split at h1
  ·split at h2
   ·rw [if_pos zO];decide
   ·split at h2
    ·cases h2
    ·rw [if_pos zO];decide
  ·split at h1
   ·cases h1
   ·split at h2
    ·rw [if_pos zO];decide
    ·split at h2
     ·cases h2
     ·rw [if_neg zO,if_neg zO];exact ih h1 h2
theorem av1 (a:ByteArray):ym a a=0:=Sk _
theorem acs {a b:ByteArray} (h:ym a b=0):a=b:=by have:=ab2 _ _ h;obtain ⟨⟨a⟩⟩:=a;obtain ⟨⟨b⟩⟩:=b;simp only at this;rw [this]
noncomputable def vh:List ByteArray->List ByteArray->Int
 | [],[]=>0
 | [],_::_=>-1
 |_::_,[]=>1
 |a::r,b::q=>if a=b then vh r q else ym a b
theorem ab8:∀ r q:List ByteArray,vh r q=0↔r=q
 | [],[]=>by simp [vh]
 | [],_::_=>by simp [vh]
 |_::_,[]=>by simp [vh]
 |a::r,b::q=>by
  rw [vh]
  split
  ·rename_i h;rw [ab8 r q,h];simp
  ·rename_i h;constructor
   ·intro e;exact (h (acs e)).elim
   ·intro e;exact (h (List.cons.inj e).1).elim
theorem Xh:∀ r q p:List ByteArray,vh r q<0->vh q p<0->vh r p<0
 |_,[],[],_,h=>by rw [vh] at h;cases h
 |_,_::_,[],_,h=>by rw [vh] at h;cases h
 | [],_,_::_,_,_=>by rw [vh];decide
 |_::_,[],_::_,h,_=>by rw [vh] at h;cases h
 |a::r,b::q,c::p,h1,h2=>by
  have ih:=Xh r q p;rw [vh] at h1 h2 ⊢;by_cases e1:a=b
  ·subst e1;rw [if_pos rfl] at h1;by_cases e2:a=c
   ·rw [if_pos e2] at h2 ⊢;exact ih h1 h2
   ·rw [if_neg e2] at h2 ⊢;exact h2
  ·rw [if_neg e1] at h1;by_cases e2:b=c
   ·subst e2;rw [if_neg e1];exact h1
   ·rw [if_neg e2] at h2;have h3:ym a c<0:=alj _ _ _ h1 h2;rw [if_neg (fun e=>by rw [e,av1] at h3;cases h3)];exact h3
theorem akp:∀ r q:List ByteArray,(if fv r q=r.length/\fv r q=q.length then (0:Int) else if fv r q=r.length then -1 else if fv r q=q.length then 1 else
 match r[fv r q]?,q[fv r q]? with|some x,some y=>ym (fold x) (fold y)|_,_=>0)=vh (r.map fold) (q.map fold)
 | [],[]=>by simp [fv,vh]
 | [],_::_=>by simp [fv,vh]
 |_::_,[]=>by simp [fv,vh]
 |a::r,b::q=>by
  have ih:=akp r q;rw [List.map_cons,List.map_cons,vh];by_cases e:fold a=fold b
  ·rw [if_pos e,<- ih];have hc:fv (a::r) (b::q)=fv r q+1:=by rw [fv,if_pos e]
   simp only [hc,List.length_cons,Nat.add_right_cancel_iff,List.getElem?_cons_succ]
  ·rw [if_neg e];have hc:fv (a::r) (b::q)=0:=by rw [fv,if_neg e]
   simp only [hc,List.length_cons,List.getElem?_cons_zero];rw [if_neg zO,if_neg zO,if_neg zO]
theorem Lb (a b:Name):u5 a b=vh (fh a).reverse (fh b).reverse:=by
 have h:=akp a.reverse b.reverse;rw [List.map_reverse,List.map_reverse,List.length_reverse,List.length_reverse] at h;unfold u5;change _=vh (a.map fold).reverse (b.map fold).reverse;rw [<- h];have hk:common a b=fv a.reverse b.reverse:=rfl;rw [hk];by_cases h1:fv a.reverse b.reverse=a.length/\fv a.reverse b.reverse=b.length
 ·rw [if_pos h1,if_pos h1]
 rw [if_neg h1,if_neg h1];by_cases h2:fv a.reverse b.reverse=a.length
 ·rw [if_pos h2,if_pos h2]
 rw [if_neg h2,if_neg h2];by_cases h3:fv a.reverse b.reverse=b.length
 ·rw [if_pos h3,if_pos h3]
 rw [if_neg h3,if_neg h3];have l1:=Dc a.reverse b.reverse;have l2:=Hb a.reverse b.reverse;rw [List.length_reverse] at l1 l2;unfold af5;rw [List.getElem?_reverse zO,List.getElem?_reverse zO]
 try rfl
theorem Jn {a b:Name}:u5 a b=0↔dt a b=true:=by
 rw [Lb,ab8,ur];constructor
 ·intro h;have:=congrArg List.reverse h;simpa using this
 ·intro h;rw [h]
theorem ash {a b c:Name} (h:dt b c=true):u5 a b=u5 a c:=by rw [Lb,Lb,ur.1 h]
theorem anq {a b c:Name} (h:dt a b=true):u5 a c=u5 b c:=by rw [Lb,Lb,ur.1 h]
theorem as0 {a b c:Name} (h1:u5 a b<0) (h2:u5 b c<0):u5 a c<0:=by rw [Lb] at *;exact Xh _ _ _ h1 h2
theorem ap4 {a b:UInt16}:M0 a b<0↔a.toNat<b.toNat:=by
 unfold M0
 split
 ·constructor<;>intro<;>omega
 ·split<;>constructor<;>intro<;>omega
theorem K0 {a b:ba}:pr a b<0↔u5 a.owner b.owner<0\/(dt a.owner b.owner=true/\a.type.toNat<b.type.toNat):=by
 unfold pr;rw [J1];by_cases h:u5 a.owner b.owner=0
 ·rw [if_neg (fun q=>q h),J1,<- Jn];by_cases h2:M0 a.type b.type=0
  ·rw [if_neg (fun q=>q h2),J1,<- ap4,h,h2];simp
  ·rw [if_pos h2,ap4,h];simp
 ·rw [if_pos h,<- Jn];simp [h]
theorem arq {a b c:ba} (h1:pr a b<0) (h2:pr b c<0):pr a c<0:=by
 rw [K0] at *;rcases h1 with h1|⟨h1,t1⟩<;>rcases h2 with h2|⟨h2,t2⟩
 ·exact .inl (as0 h1 h2)
 ·exact .inl (by rw [<- ash h2];exact h1)
 ·exact .inl (by rw [anq h1];exact h2)
 ·exact .inr ⟨ur.2 ((ur.1 h1).trans (ur.1 h2)),zO⟩
def aym (a b:ba):Prop:=¬ (dt a.owner b.owner=true/\a.type=b.type)
theorem aA2 {a b:ba} (h:pr a b<0):aym a b:=fun ⟨h1,h2⟩=>by
 rcases K0.1 h with h3|⟨_,h3⟩
 ·rw [Jn.2 h1] at h3;omega
 ·rw [h2] at h3;omega
theorem U2 {z:ay} (hg:G2 z):z.ak.Pairwise fun a b=>pr a b<0:=by
 rw [List.pairwise_iff_getElem];have step:∀ (i:Nat) (h:i+1<z.ak.length),pr z.ak[i] z.ak[i+1]<0:=fun i h=>by have:=hg.aJe (i+1) z.ak[i+1] (zh h);unfold il at this;simp only [zh (show i<z.ak.length by omega),zzh,decide_eq_true_eq] at this;omega
 intro i j hi hj dK
 induction j with
 |zero=>omega
 |succ j ih=>
  by_cases e:i=j
  ·subst e;exact step i hj
  ·exact arq (ih zO zO) (step j hj)
theorem as7 {z:ay} (hg:G2 z):z.ak.Pairwise aym:=(U2 hg).imp aA2
end Go.Proofs.YtjagjbceegbaiaaGreat
end
namespace Go.Vm
def aGn {α:Type} (lt : α -> α->Bool) (x : α):List α->List α
 | []=>[x]
 |y::l=>bif lt x y then x::y::l else y::aGn lt x l
def atu {α:Type} (lt : α -> α->Bool):List α->List α:=List.foldl (fun acc x=>aGn lt x acc) []
def ta {α:Type} (lt : α -> α->Bool) (k:Nat) (l:List α):List α:=
 if h:l.length<=k\/k=0 then atu lt l else atu lt (l.take k)++ta lt k (l.drop k)
termination_by l.length
decreasing_by simp at *;omega
theorem aek {α:Type} {l:List α} {i:Nat} {c : α} (h:l[i]? = some c):l.take (i+1)=l.take i++[c]:=by rw [List.take_add_one,h];rfl
end Go.Vm
section
namespace Go.Proofs.YtjagjbceegbaiaaGreat
open Go.Vm
theorem ahw (s:ByteArray):wl PP [] 0 (Tryz.f133.body.getD .skip) (c9 PP Tryz.f133.results.toList (fun r st=>(r1 (bb .i64)).get true st.h r=some (jr s))) (cp 0 [ai.val false s]) (bg []):=by
 unfold Tryz.f133;simp only [↓wR,zT,simprocAttr];unfold jr;rw [bh];refine ⟨fun h=>?_,fun h=>?_⟩
 ·rw [if_pos (.inl zO)];simp only [↓wR,zT,simprocAttr,h]
 ·simp only [↓wR,zT,simprocAttr,h];rw [bh];refine ⟨fun h2=>?_,fun h2=>?_⟩
  ·rw [if_pos (.inr zO)];simp only [↓wR,zT,simprocAttr,h2]
  ·rw [if_neg zO];simp only [↓wR,zT,simprocAttr,h2]
noncomputable def Hd (x:ByteArray × Unit):Option AV:=some ((r1 (bb .i64)).E true (jr x.1))
theorem abx (x:ByteArray × Unit) (r:AV) (h:Hd x=some r):bj PP 133 ((aC ai a0).E x) r:=by cases h;exact az (ar.nil PP) Tryz.func133 zK zK zK zL (r1 (bb .i64)) true (jr x.1) (ahw x.1)
noncomputable abbrev avb:zE:=(133,true,cx (aC ai a0) Hd)
theorem aH6 {c:UInt8} (h1:(65:Int)<=c.toNat) (h2:(c.toNat:Int)<=90):IntKind.u8.wrap ((c.toNat:Int)+32)=((low c).toNat:Int):=by
 have a1 : 65<=c:=by rw [UInt8.le_iff_toNat_le];simp;omega
 have a2:c<=90:=by rw [UInt8.le_iff_toNat_le];simp;omega
 have aY:low c=c+32:=by simp [low,a1,a2]
 rw [aY];simp [IntKind.wrap,IntKind.bits,IntKind.signed,UInt8.toNat_add]
theorem axy {c:UInt8} (h:¬ ((65:Int)<=c.toNat/\(c.toNat:Int)<=90)):low c=c:=by
 have:¬ (65<=c/\c<=90):=fun q=>h ⟨by have:=UInt8.le_iff_toNat_le.1 q.1;simp at this;omega,by have:=UInt8.le_iff_toNat_le.1 q.2;simp at this;omega⟩
 simp [low,this]
theorem ano (s:ByteArray) (hs:s.size<=16777216):wl PP [] 0 (Tryz.f202.body.getD .skip) (c9 PP Tryz.f202.results.toList (fun r st=>(r1 ai).get true st.h r=some (fold s))) (cp 0 [ai.val false s]) (bg []):=by
 have hl:s.data.toList.length=s.size:=by simp
 obtain ⟨F,hF⟩:∃ F,F=s.data.toList.map low:=⟨_,rfl⟩;have pO:F.length=s.size:=by rw [hF,zzo,hl]
 have eJ:fold s=⟨F.toArray⟩:=by unfold fold;rw [hF]
 rw [eJ];unfold Tryz.f202;simp only [↓wR,zT,simprocAttr];refine fg [0,4,3] (fun (i:Nat)=>[.sc (.string s),zi i,.sl 0 0 i 1]) (fun i=>[some (.row ((F.take i).map (ca.val false)) 0 0 5)]) (fun i=>i<=s.size) (fun i=>s.size - i) 0 (zzb _) zX ?_;intro i hi;simp only [↓wR,zT,simprocAttr];rw [bh];refine ⟨fun h=>?_,fun h=>?_⟩
 ·have hlt:i<s.size:=zO;obtain ⟨c,hc⟩:∃ c,s.data.toList[i]? = some c:=⟨_,zh zO⟩;have xD:F[i]? = some (low c):=by rw [hF,zzj,hc];rfl
  have bN:=aek xD;have cI:(F.take i).length=i:=by rw [zzl];omega
  have aD:i+1<=140737488355328:=zO
  repeat (first|simp only [↓wR,zT,simprocAttr,h,hc]|simp (disch:=omega) only [zW])
  by_cases h1:(65:Int)<=c.toNat
  ·by_cases h2:(c.toNat:Int)<=90
   ·have d1:decide ((c.toNat:Int) ≥ 65)=true:=zp h1;have d2:decide ((c.toNat:Int)<=90)=true:=zp h2;have hw:=aH6 h1 h2
    repeat (first|simp only [↓wR,zT,simprocAttr,d1,d2,hw,cI,aD]|simp (disch:=omega) only [zW])
    refine ⟨i+1,hlt,zO,zF,?_⟩;rw [bN,zzw];rfl
   ·have d1:decide ((c.toNat:Int) ≥ 65)=true:=zp h1;have d2:decide ((c.toNat:Int)<=90)=false:=zq h2;have hw:low c=c:=axy (fun q=>h2 q.2)
    repeat (first|simp only [↓wR,zT,simprocAttr,d1,d2,cI,aD]|simp (disch:=omega) only [zW])
    refine ⟨i+1,hlt,zO,zF,?_⟩;rw [bN,zzw,hw];rfl
  ·have d1:decide ((c.toNat:Int) ≥ 65)=false:=zq h1;have hw:low c=c:=axy (fun q=>h1 q.1)
   repeat (first|simp only [↓wR,zT,simprocAttr,d1,cI,aD]|simp (disch:=omega) only [zW])
   refine ⟨i+1,hlt,zO,zF,?_⟩;rw [bN,zzw,hw];rfl
 ·have hin:F.take i=F:=zzp zO;have rJ:i=F.length:=zO;rw [hin,rJ];simp only [↓wR,zT,simprocAttr,h]
noncomputable def zo (x:ByteArray × Unit):Option AV:=if x.1.size<=16777216 then some ((r1 ai).E true (fold x.1)) else none
theorem Ou (x:ByteArray × Unit) (r:AV) (h:zo x=some r):bj PP 202 ((aC ai a0).E x) r:=by obtain ⟨hc,rfl⟩:=zI h;exact az (ar.nil PP) Tryz.func202 zK zK zK zL (r1 ai) true (fold x.1) (ano x.1 hc)
noncomputable abbrev al4:zE:=(202,true,cx (aC ai a0) zo)
theorem aqw {A B:List UInt8} {i:Nat} (h:i=A.length\/i=B.length) (ha:i<=A.length) (hb:i<=B.length):Lib.compareBytes (A.drop i) (B.drop i)=if A.length<B.length then -1 else if A.length > B.length then 1 else 0:=by
 rcases Nat.lt_trichotomy A.length B.length with q|q|q
 ·have h1:A.drop i=[]:=zzx zO;rw [h1,if_pos q];cases h2:B.drop i with
  |nil=>have:=List.drop_eq_nil_iff.1 h2;omega
  |cons y r=>rfl
 ·have h1:A.drop i=[]:=zzx zO;have h2:B.drop i=[]:=zzx zO;rw [h1,h2,if_neg zO,if_neg zO];rfl
 ·have h1:B.drop i=[]:=zzx zO;rw [h1,if_neg zO,if_pos q];cases h2:A.drop i with
  |nil=>have:=List.drop_eq_nil_iff.1 h2;omega
  |cons y r=>rfl
theorem abu (a b:ByteArray) (ha:a.size<=16777216) (hb:b.size<=16777216):wl PP [al4] 0 (Tryz.f178.body.getD .skip) (c9 PP Tryz.f178.results.toList (fun r st=>(r1 (bb .i64)).get true st.h r=some (ym (fold a) (fold b)))) (cp 0 [ai.val false a,ai.val false b]) (bg []):=by
 have hq:∀ a b c d,ft a b c=d->ft a b c=d:=fun _ _ _ _ h=>h
 obtain ⟨A,hA⟩:∃ A,A=fold a:=⟨_,rfl⟩;obtain ⟨B,hB⟩:∃ B,B=fold b:=⟨_,rfl⟩;have kD:A.data.toList.length=A.size:=by simp
 have rH:B.data.toList.length=B.size:=by simp
 have sa:A.size<=16777216:=by rw [hA,Jh];exact ha
 have sb:B.size<=16777216:=by rw [hB,Jh];exact hb
 rw [<- hA,<- hB];unfold ym;unfold Tryz.f178;simp only [↓wR,zT,simprocAttr,zo,ha,hb,<- hA,<- hB];refine dq [5,6,7] (fun (i:Nat)=>[.sc (.string A),.sc (.string B),zi i]) (fun _=>[]) (fun i=>i<=A.size/\i<=B.size/\Lib.compareBytes A.data.toList B.data.toList=Lib.compareBytes (A.data.toList.drop i) (B.data.toList.drop i)) (fun i=>A.size - i) 0 ⟨zzb _,zzb _,rfl⟩ zS zS ?_;rintro i ⟨hi,hj,hv⟩;simp only [↓wR,zT,simprocAttr];rw [bh];refine ⟨fun h1=>?_,fun h1=>?_⟩
 ·simp only [↓wR,zT,simprocAttr,h1];rw [bh];refine ⟨fun h2=>?_,fun h2=>?_⟩
  ·obtain ⟨x,hx⟩:∃ x,A.data.toList[i]? = some x:=⟨_,zh zO⟩;obtain ⟨y,hy⟩:∃ y,B.data.toList[i]? = some y:=⟨_,zh zO⟩;have jB:A.data.toList.drop i=x::A.data.toList.drop (i+1):=by
    obtain ⟨k,rfl⟩:=zg.1 hx;exact zzs k
   have xN:B.data.toList.drop i=y::B.data.toList.drop (i+1):=by obtain ⟨k,rfl⟩:=zg.1 hy;exact zzs k
   rw [jB,xN,Lib.compareBytes] at hv;simp only [UInt8.lt_iff_toNat_lt] at hv;simp only [↓wR,zT,simprocAttr,h2];refine ⟨zK,.inl ?_⟩;simp only [↓wR,zT,simprocAttr,hx,hy];refine ⟨by apply hq;kernel_rfl,?_⟩;rw [bh];refine ⟨fun h3=>?_,fun h3=>?_⟩
   ·rw [if_pos zO] at hv;simp only [↓wR,zT,simprocAttr,h3,hv]
   ·rw [if_neg zO] at hv;simp only [↓wR,zT,simprocAttr,h3];refine ⟨zK,.inl ?_⟩;simp only [↓wR,zT,simprocAttr,hx,hy];refine ⟨by apply hq;kernel_rfl,?_⟩;rw [bh];refine ⟨fun h4=>?_,fun h4=>?_⟩
    ·rw [if_pos zO] at hv;simp only [↓wR,zT,simprocAttr,h4,hv]
    ·rw [if_neg zO] at hv
     repeat (first|simp only [↓wR,zT,simprocAttr,h4]|simp (disch:=omega) only [zW])
     exact ⟨i+1,⟨zO,zO,hv⟩,zO,zF⟩
  ·have he:=aqw (A:=A.data.toList) (B:=B.data.toList) (i:=i) zO zO zO;rw [hv,he,kD,rH];simp only [↓wR,zT,simprocAttr,h2];rw [bh];refine ⟨fun h5=>?_,fun h5=>?_⟩
   ·rw [if_pos zO];simp only [↓wR,zT,simprocAttr,h5]
   ·rw [if_neg zO];simp only [↓wR,zT,simprocAttr,h5];rw [bh];refine ⟨fun h6=>?_,fun h6=>?_⟩
    ·rw [if_pos zO];simp only [↓wR,zT,simprocAttr,h6]
    ·rw [if_neg zO];simp only [↓wR,zT,simprocAttr,h6]
 ·have he:=aqw (A:=A.data.toList) (B:=B.data.toList) (i:=i) zO zO zO;rw [hv,he,kD,rH];simp only [↓wR,zT,simprocAttr,h1];rw [bh];refine ⟨fun h5=>?_,fun h5=>?_⟩
  ·rw [if_pos zO];simp only [↓wR,zT,simprocAttr,h5]
  ·rw [if_neg zO];simp only [↓wR,zT,simprocAttr,h5];rw [bh];refine ⟨fun h6=>?_,fun h6=>?_⟩
   ·rw [if_pos zO];simp only [↓wR,zT,simprocAttr,h6]
   ·rw [if_neg zO];simp only [↓wR,zT,simprocAttr,h6]
noncomputable def tf (x:ByteArray × ByteArray × Unit):Option AV:=if x.1.size<=16777216/\x.2.1.size<=16777216 then some ((r1 (bb .i64)).E true (ym (fold x.1) (fold x.2.1))) else none
theorem Io (x:ByteArray × ByteArray × Unit) (r:AV) (h:tf x=some r):bj PP 178 ((aC ai (aC ai a0)).E x) r:=by obtain ⟨hc,rfl⟩:=zI h;exact az (ar.cons (aq Ou) (ar.nil PP)) Tryz.func178 zK zK zK zL (r1 (bb .i64)) true (ym (fold x.1) (fold x.2.1)) (abu x.1 x.2.1 hc.1 hc.2)
noncomputable abbrev Vp:zE:=(178,true,cx (aC ai (aC ai a0)) tf)
theorem aAt (n:Name) (hn:cd n<17592186044416):wl PP [] 0 (Tryz.f134.body.getD .skip) (c9 PP Tryz.f134.results.toList (fun r st=>(r1 (bb .i64)).get true st.h r=some (cd n:Int))) (cp 0 [aj.val false n]) (bg []):=by
 unfold Tryz.f134;simp only [bz];simp only [↓wR,zT,simprocAttr];refine dq [0,3,4] (fun (i:Nat)=>[zn n,zi (cd (n.take i)),zi i]) (fun _=>[]) (fun i=>i<=n.length/\cd (n.take i)<=cd n/\i<cd (n.take i)) (fun i=>n.length - i) 0 ⟨zzb _,(ju n 0).1,by simp [cd]⟩ zS zS ?_;rintro i ⟨hi,hle,rN⟩;simp only [↓wR,zT,simprocAttr];rw [bh];refine ⟨fun h=>?_,fun h=>?_⟩
 ·obtain ⟨c,hc,aF,hlt⟩:=du (zp h);have bN:=Gu n i c hc;have rD:=(ju n (i+1)).1
  repeat (first|simp only [↓wR,zT,simprocAttr,h,hc]|simp (disch:=omega) only [zW])
  refine ⟨i+1,⟨hlt,rD,zO⟩,zO,?_⟩;rw [bN];exact zF
 ·have hin:n.take i=n:=zzp zO;rw [hin];simp only [↓wR,zT,simprocAttr,h]
noncomputable def Ev (x:Name × Unit):Option AV:=if cd x.1<17592186044416 then some ((r1 (bb .i64)).E true ((cd x.1:Int))) else none
theorem Ug (x:Name × Unit) (r:AV) (h:Ev x=some r):bj PP 134 ((aC aj a0).E x) r:=by obtain ⟨hc,rfl⟩:=zI h;exact az (ar.nil PP) Tryz.func134 zK zK zK zL (r1 (bb .i64)) true ((cd x.1:Int)) (aAt x.1 hc)
noncomputable abbrev azd:zE:=(134,true,cx (aC aj a0) Ev)
theorem avy (n:Name) (hn:cd n<17592186044416):wl PP [avb,azd] 0 (Tryz.f84.body.getD .skip) (c9 PP Tryz.f84.results.toList (fun r st=>(r1 (bb .i64)).get true st.h r=some (dk n))) (cp 0 [aj.val false n]) (bg []):=by
 have hlen:n.length<cd n:=(ju n 0).2;unfold Tryz.f84;simp only [bz];simp only [↓wR,zT,simprocAttr];refine dq [0,3] (fun (i:Nat)=>[zn n,zi i]) (fun _=>[]) (fun i=>i<=n.length/\tw (n.take i)=false) (fun i=>n.length - i) 0 ⟨zzb _,rfl⟩ zS zS ?_;rintro i ⟨hi,hb⟩;simp only [↓wR,zT,simprocAttr];rw [bh];refine ⟨fun h=>?_,fun h=>?_⟩
 ·obtain ⟨c,hc,aF,hlt⟩:=du (zp h)
  repeat (first|simp only [↓wR,zT,simprocAttr,h,hc,Hd]|simp (disch:=omega) only [zW])
  rw [dh];refine ⟨fun ⟨h2,e2⟩=>?_,fun ⟨h2,e2⟩=>?_⟩
  ·have cV:=Qt n i c hc e2;have hne:jr c=4:=by
    unfold jr at e2 ⊢
    split at e2
    ·rename_i q;rw [if_pos q]
    ·exact absurd rfl e2
   have hv:dk n=4:=by unfold dk;rw [if_pos cV]
   simp only [↓wR,zT,simprocAttr,h2,hv,hne]
  ·repeat (first|simp only [↓wR,zT,simprocAttr,h2]|simp (disch:=omega) only [zW])
   refine ⟨i+1,⟨hlt,?_⟩,zO,zF⟩;rw [Q8 n i c hc,hb];simpa using e2
 ·have hin:n.take i=n:=zzp zO;rw [hin] at hb;simp only [↓wR,zT,simprocAttr,h,Ev,hn];rw [bh];refine ⟨fun h3=>?_,fun h3=>?_⟩
  ·have hv:dk n=5:=by unfold dk;rw [hb,if_neg (by simp),if_pos zO]
   simp only [↓wR,zT,simprocAttr,h3,hv]
  ·have hv:dk n=0:=by unfold dk;rw [hb,if_neg (by simp),if_neg zO]
   simp only [↓wR,zT,simprocAttr,h3,hv]
noncomputable def Af (x:Name × Unit):Option AV:=if cd x.1<17592186044416 then some ((r1 (bb .i64)).E true (dk x.1)) else none
theorem Ba (x:Name × Unit) (r:AV) (h:Af x=some r):bj PP 84 ((aC aj a0).E x) r:=by obtain ⟨hc,rfl⟩:=zI h;exact az (ar.cons (aq abx) (ar.cons (aq Ug) (ar.nil PP))) Tryz.func84 zK zK zK zL (r1 (bb .i64)) true (dk x.1) (avy x.1 hc)
noncomputable abbrev Pg:zE:=(84,true,cx (aC aj a0) Af)
theorem ak6 (l:List ByteArray):fv [] l=0:=by cases l<;>rfl
theorem ath (a b:Name) (ha:aw a) (hb:aw b):wl PP [Vp] 0 (Tryz.f135.body.getD .skip) (c9 PP Tryz.f135.results.toList (fun r st=>(r1 (bb .i64)).get true st.h r=some (common a b:Int))) (cp 0 [aj.val false a,aj.val false b]) (bg []):=by
 have hq:∀ a b c d,ft a b c=d->ft a b c=d:=fun _ _ _ _ h=>h
 have la:=ha.lt;have lb:=hb.lt;unfold Tryz.f135;simp only [bz];simp only [↓wR,zT,simprocAttr];refine dq [0,1,5] (fun (x:Nat)=>[zn a,zn b,zi x]) (fun _=>[]) (fun x=>x<=a.length/\x<=b.length/\common a b=x+fv (a.reverse.drop x) (b.reverse.drop x)) (fun x=>a.length - x) 0 ⟨zzb _,zzb _,by simp [common]⟩ zS zS ?_;rintro x ⟨hx,hx2,hR⟩;simp only [↓wR,zT,simprocAttr];refine ⟨zK,.inl ?_⟩;rw [bh];refine ⟨fun h1=>?_,fun h1=>?_⟩
 ·simp only [↓wR,zT,simprocAttr,h1];rw [bh];refine ⟨fun h2=>?_,fun h2=>?_⟩
  ·obtain ⟨c,hc⟩:∃ c,a[a.length - 1 - x]? = some c:=⟨_,zh zO⟩;obtain ⟨d,hd⟩:∃ d,b[b.length - 1 - x]? = some d:=⟨_,zh zO⟩;have e1:((a.length:Int) - 1 - x).toNat=a.length - 1 - x:=zO;have e2:(0:Int)<=(a.length:Int) - 1 - x:=zO;have e4:((b.length:Int) - 1 - x).toNat=b.length - 1 - x:=zO;have e5:(0:Int)<=(b.length:Int) - 1 - x:=zO;rw [My zO hc,My zO hd,fv] at hR
   repeat (first|simp only [↓wR,zT,simprocAttr,h2,e1,e2,e4,e5,hc,hd,tf,ha.label c (zm hc),hb.label d (zm hd)]|simp (disch:=omega) only [zW])
   refine ⟨by apply hq;kernel_rfl,?_⟩;rw [cf];refine ⟨fun ⟨h3,e3⟩=>?_,fun ⟨h3,e3⟩=>?_⟩
   ·have h4:fold c=fold d:=acs e3;rw [if_pos h4] at hR
    repeat (first|simp only [↓wR,zT,simprocAttr,h3]|simp (disch:=omega) only [zW])
    exact ⟨x+1,⟨zO,zO,zO⟩,zO,zF⟩
   ·have h4:¬ fold c=fold d:=fun q=>e3 (by rw [q];unfold ym;exact Sk _)
    rw [if_neg h4] at hR
    repeat (first|simp only [↓wR,zT,simprocAttr,h3]|simp (disch:=omega) only [zW])
    rw [hR,Nat.add_zero]
  ·have h5:b.reverse.drop x=[]:=zzx (by simp;omega);rw [h5,Ui] at hR
   repeat (first|simp only [↓wR,zT,simprocAttr,h2]|simp (disch:=omega) only [zW])
   refine ⟨by apply hq;kernel_rfl,?_⟩;rw [hR,Nat.add_zero]
 ·have h5:a.reverse.drop x=[]:=zzx (by simp;omega);rw [h5,ak6] at hR
  repeat (first|simp only [↓wR,zT,simprocAttr,h1]|simp (disch:=omega) only [zW])
  refine ⟨by apply hq;kernel_rfl,?_⟩;rw [hR,Nat.add_zero]
noncomputable def yy (x:Name × Name × Unit):Option AV:=if aw x.1/\aw x.2.1 then some ((r1 (bb .i64)).E true ((common x.1 x.2.1:Int))) else none
theorem I3 (x:Name × Name × Unit) (r:AV) (h:yy x=some r):bj PP 135 ((aC aj (aC aj a0)).E x) r:=by obtain ⟨hc,rfl⟩:=zI h;exact az (ar.cons (aq Io) (ar.nil PP)) Tryz.func135 zK zK zK zL (r1 (bb .i64)) true ((common x.1 x.2.1:Int)) (ath x.1 x.2.1 hc.1 hc.2)
noncomputable abbrev aba:zE:=(135,true,cx (aC aj (aC aj a0)) yy)
theorem av7 (n top:Name) (hn:aw n) (ht:aw top):wl PP [aba] 0 (Tryz.f85.body.getD .skip) (c9 PP Tryz.f85.results.toList (fun r st=>(r1 bk).get true st.h r=some (dj n top))) (cp 0 [aj.val false n,aj.val false top]) (bg []):=by
 unfold Tryz.f85;simp only [bz];simp only [↓wR,zT,simprocAttr,yy,hn,ht]
 congr 1
 unfold dj;have:=Dy n top;rw [zyb];simp [<- this];omega
noncomputable def rp (x:Name × Name × Unit):Option AV:=if aw x.1/\aw x.2.1 then some ((r1 bk).E true (dj x.1 x.2.1)) else none
theorem ye (x:Name × Name × Unit) (r:AV) (h:rp x=some r):bj PP 85 ((aC aj (aC aj a0)).E x) r:=by obtain ⟨hc,rfl⟩:=zI h;exact az (ar.cons (aq I3) (ar.nil PP)) Tryz.func85 zK zK zK zL (r1 bk) true (dj x.1 x.2.1) (av7 x.1 x.2.1 hc.1 hc.2)
noncomputable abbrev m8:zE:=(85,true,cx (aC aj (aC aj a0)) rp)
theorem aAf (n top:Name) (hn:aw n) (ht:aw top):wl PP [aba] 0 (Tryz.f137.body.getD .skip) (c9 PP Tryz.f137.results.toList (fun r st=>(r1 bk).get true st.h r=some (dt n top))) (cp 0 [aj.val false n,aj.val false top]) (bg []):=by
 unfold Tryz.f137;simp only [bz];simp only [↓wR,zT,simprocAttr,yy,hn,ht];rw [cw];refine ⟨fun h=>?_,fun h=>?_⟩
 ·have hl:n.length=top.length:=by simp at h;omega
  simp only [↓wR,zT,simprocAttr,h,yy,hn,ht]
  congr 1
  unfold dt;have:=Fk n top;rw [zyb];simp [<- this,hl];omega
 ·have hl:¬ n.length=top.length:=by simp at h;omega
  simp only [↓wR,zT,simprocAttr,h];have:=Fk n top;simp [dt,<- this,hl]
noncomputable def xu (x:Name × Name × Unit):Option AV:=if aw x.1/\aw x.2.1 then some ((r1 bk).E true (dt x.1 x.2.1)) else none
theorem um (x:Name × Name × Unit) (r:AV) (h:xu x=some r):bj PP 137 ((aC aj (aC aj a0)).E x) r:=by obtain ⟨hc,rfl⟩:=zI h;exact az (ar.cons (aq I3) (ar.nil PP)) Tryz.func137 zK zK zK zL (r1 bk) true (dt x.1 x.2.1) (aAf x.1 x.2.1 hc.1 hc.2)
noncomputable abbrev po:zE:=(137,true,cx (aC aj (aC aj a0)) xu)
theorem ao2 (a b:Name) (ha:aw a) (hb:aw b):wl PP [aba,Vp] 0 (Tryz.f182.body.getD .skip) (c9 PP Tryz.f182.results.toList (fun r st=>(r1 (bb .i64)).get true st.h r=some (u5 a b))) (cp 0 [aj.val false a,aj.val false b]) (bg []):=by
 unfold Tryz.f182;simp only [bz];simp only [↓wR,zT,simprocAttr,yy,ha,hb];have h1:=Dc a.reverse b.reverse;have h2:=Hb a.reverse b.reverse;rw [List.length_reverse] at h1 h2;change common a b<=a.length at h1;change common a b<=b.length at h2;obtain ⟨k,hk⟩:∃ k,common a b=k:=⟨_,rfl⟩;rw [hk] at h1 h2;unfold u5;rw [hk];rw [cw];refine ⟨fun h=>?_,fun h=>?_⟩
 ·simp only [↓wR,zT,simprocAttr,h];have hka:k=a.length:=by simp at h;omega
  rw [cw];refine ⟨fun h3=>?_,fun h3=>?_⟩
  ·have hkb:k=b.length:=by simp at h3;omega
   simp only [↓wR,zT,simprocAttr,h3];rw [if_pos ⟨hka,hkb⟩]
  ·have hkb:¬ k=b.length:=by simp at h3;omega
   simp only [↓wR,zT,simprocAttr,h3,h];rw [if_neg (fun e=>hkb e.2),if_pos hka]
 ·simp only [↓wR,zT,simprocAttr,h];have hka:¬ k=a.length:=by simp at h;omega
  rw [cw];refine ⟨fun h3=>?_,fun h3=>?_⟩
  ·have hkb:k=b.length:=by simp at h3;omega
   simp only [↓wR,zT,simprocAttr,h3];rw [if_neg (fun e=>hka e.1),if_neg hka,if_pos hkb]
  ·have hkb:¬ k=b.length:=by simp at h3;omega
   rw [if_neg (fun e=>hka e.1),if_neg hka,if_neg hkb];obtain ⟨x,hx⟩:∃ x,a[a.length - 1 - k]? = some x:=⟨_,zh zO⟩;obtain ⟨y,hy⟩:∃ y,b[b.length - 1 - k]? = some y:=⟨_,zh zO⟩;simp only [↓wR,zT,simprocAttr,h3];refine ⟨zK,.inl ?_⟩;have la:=ha.len;have lb:=hb.len;simp (disch:=omega) only [zW];have e1:(((a.length:Int) - 1) - k).toNat=a.length - 1 - k:=zO;have e2:(0:Int)<=((a.length:Int) - 1) - k:=zO;have e3:(((b.length:Int) - 1) - k).toNat=b.length - 1 - k:=zO;have e4:(0:Int)<=((b.length:Int) - 1) - k:=zO;simp only [↓wR,zT,simprocAttr,hx,e1,e2];simp (disch:=omega) only [zW];simp only [↓wR,zT,simprocAttr,hy,e3,e4,tf,ha.label x (zm hx),hb.label y (zm hy)];exact ⟨zK,by simp [af5,hx,hy]⟩
noncomputable def Ft (x:Name × Name × Unit):Option AV:=if aw x.1/\aw x.2.1 then some ((r1 (bb .i64)).E true (u5 x.1 x.2.1)) else none
theorem afh (x:Name × Name × Unit) (r:AV) (h:Ft x=some r):bj PP 182 ((aC aj (aC aj a0)).E x) r:=by obtain ⟨hc,rfl⟩:=zI h;exact az (ar.cons (aq I3) (ar.cons (aq Io) (ar.nil PP))) Tryz.func182 zK zK zK zL (r1 (bb .i64)) true (u5 x.1 x.2.1) (ao2 x.1 x.2.1 hc.1 hc.2)
noncomputable abbrev aAc:zE:=(182,true,cx (aC aj (aC aj a0)) Ft)
noncomputable def pw:dp Shape:=x7 (jq (bb .i64) (jq (bb .i64) (jq (bb .i64) (jq (bb .i64) (bb .i64))))) (fun s=>(s.names,s.nums,s.texts,s.raw,s.size)) (fun p=>⟨p.1,p.2.1,p.2.2.2.2,p.2.2.1,p.2.2.2.1⟩) (fun _=>rfl) (fun _=>rfl)
theorem x6 (l:Bool) (s:Shape):pw.val l s = .agg [.sc (.int .i64 s.names),.sc (.int .i64 s.nums),.sc (.int .i64 s.texts),.sc (.int .i64 s.raw),.sc (.int .i64 s.size)]:=id rfl
theorem jg (fr h) (a b c d e:Int):pw.gv fr h (.agg [.sc (.int .i64 a),.sc (.int .i64 b),.sc (.int .i64 c),.sc (.int .i64 d),.sc (.int .i64 e)])=some ⟨a,b,e,c,d⟩:=aGq pw fr h ⟨a,b,e,c,d⟩
theorem aGd (t:UInt16):wl PP [] 0 (Tryz.f171.body.getD .skip) (c9 PP Tryz.f171.results.toList (fun r st=>(r2 pw bk).get true st.h r=some (c8 t,!om t))) (cp 0 [cj.val false t]) (bg []):=by
 have hk:∀ n:Int,(t.toNat:Int)=n->n≠0->¬ (128<=n/\n<=255)->om t=false:=by intro n h1 h2 h3;unfold om;rw [h1];simp only [Bool.or_eq_false_iff,beq_eq_false_iff_ne,ne_eq,Bool.and_eq_false_iff,decide_eq_false_iff_not];exact ⟨h2,zO⟩
 unfold Tryz.f171;unfold c8;simp only [↓wR,zT,simprocAttr];rw [cf];refine ⟨fun ⟨h0,e0⟩=>?_,fun ⟨h0,e0⟩=>?_⟩
 ·simp only [↓wR,zT,simprocAttr,h0,jg,hk _ e0 (by decide) (by decide)];rw [if_pos e0]
 rw [if_neg e0];simp only [↓wR,zT,simprocAttr,h0];rw [cf];refine ⟨fun ⟨h1,e1⟩=>?_,fun ⟨h1,e1⟩=>?_⟩
 ·simp only [↓wR,zT,simprocAttr,h1,jg,hk _ e1 (by decide) (by decide)];rw [if_pos e1]
 rw [if_neg e1];simp only [↓wR,zT,simprocAttr,h1];rw [cf];refine ⟨fun ⟨h2,e2⟩=>?_,fun ⟨h2,e2⟩=>?_⟩
 ·simp only [↓wR,zT,simprocAttr,h2,jg,hk _ e2 (by decide) (by decide)];rw [if_pos e2]
 rw [if_neg e2];simp only [↓wR,zT,simprocAttr,h2];rw [cf];refine ⟨fun ⟨h3,e3⟩=>?_,fun ⟨h3,e3⟩=>?_⟩
 ·simp only [↓wR,zT,simprocAttr,h3,jg,hk _ e3 (by decide) (by decide)];rw [if_pos e3]
 rw [if_neg e3];simp only [↓wR,zT,simprocAttr,h3];rw [cf];refine ⟨fun ⟨h4,e4⟩=>?_,fun ⟨h4,e4⟩=>?_⟩
 ·simp only [↓wR,zT,simprocAttr,h4,jg,hk _ e4 (by decide) (by decide)];rw [if_pos e4]
 rw [if_neg e4];simp only [↓wR,zT,simprocAttr,h4];rw [cf];refine ⟨fun ⟨h5,e5⟩=>?_,fun ⟨h5,e5⟩=>?_⟩
 ·simp only [↓wR,zT,simprocAttr,h5,jg,hk _ e5 (by decide) (by decide)];rw [if_pos e5]
 rw [if_neg e5];simp only [↓wR,zT,simprocAttr,h5];rw [cf];refine ⟨fun ⟨h6,e6⟩=>?_,fun ⟨h6,e6⟩=>?_⟩
 ·simp only [↓wR,zT,simprocAttr,h6,jg,hk _ e6 (by decide) (by decide)];rw [if_pos e6]
 rw [if_neg e6];simp only [↓wR,zT,simprocAttr,h6];rw [cf];refine ⟨fun ⟨h7,e7⟩=>?_,fun ⟨h7,e7⟩=>?_⟩
 ·simp only [↓wR,zT,simprocAttr,h7,jg,hk _ e7 (by decide) (by decide)];rw [if_pos e7]
 rw [if_neg e7];simp only [↓wR,zT,simprocAttr,h7];rw [cf];refine ⟨fun ⟨h8,e8⟩=>?_,fun ⟨h8,e8⟩=>?_⟩
 ·simp only [↓wR,zT,simprocAttr,h8,jg,hk _ e8 (by decide) (by decide)];rw [if_pos e8]
 rw [if_neg e8];simp only [↓wR,zT,simprocAttr,h8];rw [cf];refine ⟨fun ⟨h9,e9⟩=>?_,fun ⟨h9,e9⟩=>?_⟩
 ·simp only [↓wR,zT,simprocAttr,h9,jg,hk _ e9 (by decide) (by decide)];rw [if_pos e9]
 rw [if_neg e9];simp only [↓wR,zT,simprocAttr,h9];have hb:(!om t)=(if (t.toNat:Int)=0 then false else if (t.toNat:Int)<128 then true else decide (255<(t.toNat:Int))):=by
  unfold om;rw [zyb]
  split
  ·rename_i h;simp [h]
  ·split
   ·rename_i h1 h2;simp [h1];omega
   ·rename_i h1 h2;simp [h1];omega
 rw [hb];rw [dh];refine ⟨fun ⟨h10,gF⟩=>?_,fun ⟨h10,gF⟩=>?_⟩
 ·rw [if_neg gF];simp only [↓wR,zT,simprocAttr,h10];rw [bh];refine ⟨fun h11=>?_,fun h11=>?_⟩
  ·rw [if_pos h11];simp only [↓wR,zT,simprocAttr,h11,jg]
  ·rw [if_neg h11];simp only [↓wR,zT,simprocAttr,h11,jg]
 ·rw [if_pos gF];simp only [↓wR,zT,simprocAttr,h10,jg]
noncomputable def age (x:UInt16 × Unit):Option AV:=some ((r2 pw bk).E true ((c8 x.1,!om x.1)))
theorem Wp (x:UInt16 × Unit) (r:AV) (h:age x=some r):bj PP 171 ((aC cj a0).E x) r:=by cases h;exact az (ar.nil PP) Tryz.func171 zK zK zK zL (r2 pw bk) true ((c8 x.1,!om x.1)) (aGd x.1)
noncomputable abbrev rOf:zE:=(171,true,cx (aC cj a0) age)
def Bi (n:Int):UInt32:=if n=1 then 255 else if n=2 then 65535 else 4294967295
theorem aAg (n:Int):wl PP [] 0 (Tryz.f199.body.getD .skip) (c9 PP Tryz.f199.results.toList (fun r st=>(r1 cz).get true st.h r=some (Bi n))) (cp 0 [(bb .i64).val false n]) (bg []):=by
 unfold Bi;unfold Tryz.f199;simp only [↓wR,zT,simprocAttr];rw [cf];refine ⟨fun ⟨h0,e0⟩=>?_,fun ⟨h0,e0⟩=>?_⟩
 ·simp only [↓wR,zT,simprocAttr,h0];rw [if_pos e0];rfl
 rw [if_neg e0];simp only [↓wR,zT,simprocAttr,h0];rw [cf];refine ⟨fun ⟨h1,e1⟩=>?_,fun ⟨h1,e1⟩=>?_⟩
 ·simp only [↓wR,zT,simprocAttr,h1];rw [if_pos e1];rfl
 rw [if_neg e1];simp only [↓wR,zT,simprocAttr,h1];rfl
noncomputable def ajj (x:Int × Unit):Option AV:=some ((r1 cz).E true (Bi x.1))
theorem ark (x:Int × Unit) (r:AV) (h:ajj x=some r):bj PP 199 ((aC (bb .i64) a0).E x) r:=by cases h;exact az (ar.nil PP) Tryz.func199 zK zK zK zL (r1 cz) true (Bi x.1) (aAg x.1)
noncomputable abbrev aIo:zE:=(199,true,cx (aC (bb .i64) a0) ajj)
theorem at8 (n:UInt32) (k:Int) (hk : 0<=k/\k<=4):wl PP [] 0 (Tryz.f205.body.getD .skip) (c9 PP Tryz.f205.results.toList (fun r st=>(r1 (cg ca)).get false st.h r=some ((C9 n).drop (4 - k).toNat))) (cp 0 [cz.val false n,(bb .i64).val false k]) (bg []):=by unfold Tryz.f205;simp only [↓wR,zT,simprocAttr];simp (disch:=omega) only [zW];have h4:(4 - k).toNat<=4:=zO;have wX:k=0\/k=1\/k=2\/k=3\/k=4:=zO;simp only [↓wR,zT,simprocAttr,hk,h4];rcases wX with rfl|rfl|rfl|rfl|rfl<;>first|rfl|(simp only [↓wR,zT,simprocAttr,Yz];done)|(simp only [↓wR,zT,simprocAttr,Yz,List.drop,List.take];rfl)
noncomputable def D0 (x:UInt32 × Int × Unit):Option AV:=if 0<=x.2.1/\x.2.1<=4 then some ((r1 (cg ca)).E false (((C9 x.1).drop (4 - x.2.1).toNat))) else none
theorem agw (x:UInt32 × Int × Unit) (r:AV) (h:D0 x=some r):bj PP 205 ((aC cz (aC (bb .i64) a0)).E x) r:=by
 by_cases hc : 0<=x.2.1/\x.2.1<=4
 case neg=>simp only [D0,if_neg hc] at h;cases h
 simp only [D0,if_pos hc] at h;cases h;exact az (ar.nil PP) Tryz.func205 zK zK zK zL (r1 (cg ca)) false (((C9 x.1).drop (4 - x.2.1).toNat)) (at8 x.1 x.2.1 hc)
noncomputable abbrev aFd:zE:=(205,true,cx (aC cz (aC (bb .i64) a0)) D0)
theorem aFh (s:ByteArray) (hs:s.size<=16777216):wl PP [] 0 (Tryz.f200.body.getD .skip) (c9 PP Tryz.f200.results.toList (fun r st=>(r1 bk).get true st.h r=some (wg s))) (cp 0 [ai.val false s]) (bg []):=by
 unfold Tryz.f200;simp only [↓wR,zT,simprocAttr];rw [bh];refine ⟨fun h1=>?_,fun h1=>?_⟩
 ·have hv:wg s=false:=by unfold wg;rw [Bool.and_eq_false_iff];right;rw [decide_eq_false_iff_not];omega
  simp only [↓wR,zT,simprocAttr,h1,hv]
 simp only [↓wR,zT,simprocAttr,h1];rw [bh];refine ⟨fun h2=>?_,fun h2=>?_⟩
 ·have hv:wg s=false:=by unfold wg;rw [Bool.and_eq_false_iff];right;rw [decide_eq_false_iff_not];omega
  simp only [↓wR,zT,simprocAttr,h2,hv]
 simp only [↓wR,zT,simprocAttr,h2];refine dq [0,3] (fun (i:Nat)=>[.sc (.string s),.sc (.int .i64 i)]) (fun _=>[]) (fun i=>i<=s.size/\s.data.toList.all Fa=(s.data.toList.drop i).all Fa) (fun i=>s.size - i) 0 ⟨zzb _,rfl⟩ zS zS ?_;rintro i ⟨hi,hR⟩;simp only [↓wR,zT,simprocAttr];rw [bh];refine ⟨fun h=>?_,fun h=>?_⟩
 ·obtain ⟨c,hc⟩:∃ c,s.data.toList[i]? = some c:=⟨_,zh (by simp;omega)⟩;have hd:=Eh hc;rw [hd,List.all_cons] at hR
  repeat (first|simp only [↓wR,zT,simprocAttr,h,hc]|simp (disch:=omega) only [zW])
  repeat' (rw [bh];refine ⟨fun h=>?_,fun h=>?_⟩<;>simp only [↓wR,zV,simprocAttr,h,hc])
  all_goals first
   |(
    have ht:Fa c=false:=by (unfold Fa;rw [decide_eq_false_iff_not];omega)
    rw [wg,hR,ht];rfl)
   |(
    have ht:Fa c=true:=by (unfold Fa;rw [decide_eq_true_eq];omega)
    refine ⟨i+1,⟨zO,by rw [hR,ht];simp⟩,zO,zF⟩)
 ·have dZ:s.data.toList.drop i=[]:=zzx (by simp;omega);rw [dZ,List.all_nil] at hR;have hv:wg s=true:=by unfold wg;rw [hR,Bool.true_and,decide_eq_true_eq];omega
  simp only [↓wR,zT,simprocAttr,h,hv]
noncomputable def Xw (x:ByteArray × Unit):Option AV:=if x.1.size<=16777216 then some ((r1 bk).E true (wg x.1)) else none
theorem aw4 (x:ByteArray × Unit) (r:AV) (h:Xw x=some r):bj PP 200 ((aC ai a0).E x) r:=by obtain ⟨hc,rfl⟩:=zI h;exact az (ar.nil PP) Tryz.func200 zK zK zK zL (r1 bk) true (wg x.1) (aFh x.1 hc)
noncomputable abbrev aJ0:zE:=(200,true,cx (aC ai a0) Xw)
noncomputable def S5 (t:UInt16) (d:cq):Bool:=if (t.toNat:Int)=257 then wg (d.texts.headD ⟨#[]⟩) else true
noncomputable def asd (t:UInt16) (d:cq):Bool:=if (t.toNat:Int)=16/\(d.texts.any fun x=>decide (255<x.size))=true then false else S5 t d
noncomputable def aga (s:Shape) (t:UInt16) (d:cq):Bool:=if (d.nums.any fun n=>decide ((Bi s.size).toNat<n.toNat))=true then false else asd t d
def rr (s:Shape) (d:cq):Prop:=((d.names.length:Int)≠s.names\/(d.nums.length:Int)≠s.nums)\/(0<=s.texts/\(d.texts.length:Int)≠s.texts)\/(s.texts<0/\(d.texts.length:Int)=0)\/(0<=s.raw/\(d.raw.length:Int)≠s.raw)
noncomputable def G8 (s:Shape) (t:UInt16) (d:cq):Bool:=open Classical in if rr s d then false else aga s t d
def Xp (s:Shape) (t:UInt16):Prop:=(t.toNat:Int)=257->s.texts=2
instance (s:Shape) (t:UInt16):Decidable (Xp s t):=inferInstanceAs (Decidable (_->_))
set_option maxHeartbeats 4000000 in
theorem aBw (s:Shape) (t:UInt16) (d:cq) (hd:da d) (eC:Xp s t):wl PP [aIo,aJ0] 0 (Tryz.f172.body.getD .skip) (c9 PP Tryz.f172.results.toList (fun r st=>(r1 bk).get true st.h r=some (G8 s t d))) (cp 0 [cj.val false t,pw.val false s,bc.val false d]) (bg []):=by
 obtain ⟨l1,l2,l3,l4⟩:=hd.lens;have cV:rr s d->G8 s t d=false:=fun h=>if_pos h
 have aB:¬ rr s d->G8 s t d=aga s t d:=fun h=>if_neg h
 unfold Tryz.f172;simp only [x6,iy,bz];have hg:∀ (L:SL) (P1:Prop),(P1->0<d.texts.length)->True:=fun _ _ _=>trivial
 simp only [↓wR,zT,simprocAttr];rw [dh];refine ⟨fun ⟨a1,e1⟩=>?_,fun ⟨a1,e1⟩=>?_⟩
 ·have hv:=cV (.inl (.inl e1));simp only [↓wR,zT,simprocAttr,a1,hv]
 simp only [↓wR,zT,simprocAttr,a1];rw [dh];refine ⟨fun ⟨a2,e2⟩=>?_,fun ⟨a2,e2⟩=>?_⟩
 ·have hv:=cV (.inl (.inr e2));simp only [↓wR,zT,simprocAttr,a2,hv]
 simp only [↓wR,zT,simprocAttr,a2];rw [bh];refine ⟨fun h3=>?_,fun h3=>?_⟩;simp only [↓wR,zT,simprocAttr,h3];rw [dh];refine ⟨fun ⟨a3,e3⟩=>?_,fun ⟨a3,e3⟩=>?_⟩;have hv:=cV (.inr (.inl ⟨h3,e3⟩));simp only [↓wR,zT,simprocAttr,a3,hv];simp only [↓wR,zT,simprocAttr,a3];rw [bh];refine ⟨fun h4=>?_,fun h4=>?_⟩;exfalso;omega;simp only [↓wR,zT,simprocAttr,h4];rw [bh];refine ⟨fun h5=>?_,fun h5=>?_⟩;simp only [↓wR,zT,simprocAttr,h5];rw [dh];refine ⟨fun ⟨a4,e4⟩=>?_,fun ⟨a4,e4⟩=>?_⟩;have hv:=cV (.inr (.inr (.inr ⟨h5,e4⟩)));simp only [↓wR,zT,simprocAttr,a4,hv];have hv:=aB (by unfold rr;omega);have hp:(t.toNat:Int)=257->0<d.texts.length:=fun q=>by have:=eC q;omega
 simp only [↓wR,zT,simprocAttr,a4];rotate_left;have hv:=aB (by unfold rr;omega);have hp:(t.toNat:Int)=257->0<d.texts.length:=fun q=>by have:=eC q;omega
 simp only [↓wR,zT,simprocAttr,h5];rotate_left;simp only [↓wR,zT,simprocAttr,h3];rw [bh];refine ⟨fun h4=>?_,fun h4=>?_⟩;simp only [↓wR,zT,simprocAttr,h4];rw [cf];refine ⟨fun ⟨a3,e3⟩=>?_,fun ⟨a3,e3⟩=>?_⟩;have hv:=cV (.inr (.inr (.inl ⟨h4,e3⟩)));simp only [↓wR,zT,simprocAttr,a3,hv];simp only [↓wR,zT,simprocAttr,a3];rw [bh];refine ⟨fun h5=>?_,fun h5=>?_⟩;simp only [↓wR,zT,simprocAttr,h5];rw [dh];refine ⟨fun ⟨a4,e4⟩=>?_,fun ⟨a4,e4⟩=>?_⟩;have hv:=cV (.inr (.inr (.inr ⟨h5,e4⟩)));simp only [↓wR,zT,simprocAttr,a4,hv];have hv:=aB (by unfold rr;omega);have hp:(t.toNat:Int)=257->0<d.texts.length:=fun q=>by have:=eC q;omega
 simp only [↓wR,zT,simprocAttr,a4];rotate_left;have hv:=aB (by unfold rr;omega);have hp:(t.toNat:Int)=257->0<d.texts.length:=fun q=>by have:=eC q;omega
 simp only [↓wR,zT,simprocAttr,h5];rotate_left;exfalso;omega
 all_goals
  rw [hv];clear hv hg cV aB eC;unfold aga;refine dq [0,4,5,7] (fun (i:Nat)=>[.sc (.int .u16 t.toNat),.ptr 0 0,.ptr 1 0,zi i]) (fun _=>[some (.row [.sc (.int .i64 (s).names),.sc (.int .i64 (s).nums),.sc (.int .i64 (s).texts),.sc (.int .i64 (s).raw),.sc (.int .i64 (s).size)] 0 2 209),some (.row [zv d.names,zu d.nums,zn d.texts,zw d.raw] 0 2 116)]) (fun i=>i<=d.nums.length/\(d.nums.any fun n=>decide ((Bi s.size).toNat<n.toNat))=((d.nums.drop i).any fun n=>decide ((Bi s.size).toNat<n.toNat))) (fun i=>d.nums.length - i) 0 ⟨zzb _,by rw [List.drop_zero]⟩ zS zS ?_;rintro i ⟨hi,hR⟩;simp only [↓wR,zT,simprocAttr];rw [bh];refine ⟨fun h=>?_,fun h=>?_⟩
  ·obtain ⟨c,hc,aF,hlt⟩:=du (zp h);rw [aF,List.any_cons] at hR;simp only [↓wR,zT,simprocAttr,h];refine ⟨zK,.inl ?_⟩;simp only [↓wR,zT,simprocAttr,hc,ajj];refine ⟨zK,?_⟩;rw [bh];refine ⟨fun h6=>?_,fun h6=>?_⟩
   ·rw [if_pos (by rw [hR,zp zO,Bool.true_or])];simp only [↓wR,zT,simprocAttr,h6]
   ·repeat (first|simp only [↓wR,zT,simprocAttr,h6]|simp (disch:=omega) only [zW])
    exact ⟨i+1,⟨hlt,by rw [hR,zq zO,Bool.false_or]⟩,zO,zF⟩
  rw [eu (zq h),List.any_nil] at hR;rw [if_neg (by rw [hR];decide)];simp only [↓wR,zT,simprocAttr,h];unfold asd;refine dq [0,5,8] (fun (i:Nat)=>[.sc (.int .u16 t.toNat),.ptr 0 0,zi i]) (fun _=>[some (.row [zv d.names,zu d.nums,zn d.texts,zw d.raw] 0 2 116)]) (fun i=>i<=d.texts.length/\(d.texts.any fun x=>decide (255<x.size))=((d.texts.drop i).any fun x=>decide (255<x.size))) (fun i=>d.texts.length - i) 0 ⟨zzb _,by rw [List.drop_zero]⟩ zS zS ?_;rintro i ⟨bE,hR2⟩;simp only [↓wR,zT,simprocAttr];rw [cf];refine ⟨fun ⟨h7,e7⟩=>?_,fun ⟨h7,e7⟩=>?_⟩
  ·simp only [↓wR,zT,simprocAttr,h7];rw [bh];refine ⟨fun h8=>?_,fun h8=>?_⟩
   ·obtain ⟨c,hc,aF,hlt⟩:=du (zp h8);rw [aF,List.any_cons] at hR2;simp only [↓wR,zT,simprocAttr,h8,hc];rw [bh];refine ⟨fun h9=>?_,fun h9=>?_⟩
    ·rw [if_pos ⟨e7,by rw [hR2,zp zO,Bool.true_or]⟩];simp only [↓wR,zT,simprocAttr,h9]
    ·repeat (first|simp only [↓wR,zT,simprocAttr,h9]|simp (disch:=omega) only [zW])
     exact ⟨i+1,⟨hlt,by rw [hR2,zq zO,Bool.false_or]⟩,zO,zF⟩
   ·rw [eu (zq h8),List.any_nil] at hR2;rw [if_neg (by rw [hR2];rintro ⟨_,q⟩;cases q)];have hv:S5 t d=true:=if_neg zO;rw [hv];simp only [↓wR,zT,simprocAttr,h8,e7]
  ·rw [if_neg (fun q=>e7 q.1)];simp only [↓wR,zT,simprocAttr,h7];rw [dh];refine ⟨fun ⟨h10,gF⟩=>?_,fun ⟨h10,gF⟩=>?_⟩
   ·have hv:S5 t d=true:=if_neg gF;rw [hv];simp only [↓wR,zT,simprocAttr,h10]
   ·obtain ⟨c,hc⟩:∃ c,d.texts[0]? = some c:=⟨_,zh (hp gF)⟩;have hh:d.texts.headD ⟨#[]⟩=c:=by
     cases ht:d.texts with
     |nil=>rw [ht] at hc;cases hc
     |cons a l=>rw [ht] at hc;simpa using hc
    have hv:S5 t d=wg c:=by unfold S5;rw [if_pos gF,hh]
    rw [hv];simp only [↓wR,zT,simprocAttr,h10,hc,Xw,hd.text c (zm hc)]
noncomputable def Pz (x:UInt16 × Shape × cq × Unit):Option AV:=if da x.2.2.1/\Xp x.2.1 x.1 then some ((r1 bk).E true (G8 x.2.1 x.1 x.2.2.1)) else none
theorem aui (x:UInt16 × Shape × cq × Unit) (r:AV) (h:Pz x=some r):bj PP 172 ((aC cj (aC pw (aC bc a0))).E x) r:=by obtain ⟨hc,rfl⟩:=zI h;exact az (ar.cons (aq ark) (ar.cons (aq aw4) (ar.nil PP))) Tryz.func172 zK zK zK zL (r1 bk) true (G8 x.2.1 x.1 x.2.2.1) (aBw x.2.1 x.1 x.2.2.1 hc.1 hc.2)
noncomputable abbrev aIu:zE:=(172,true,cx (aC cj (aC pw (aC bc a0))) Pz)
def Bs (l:List Name):Nat:=(l.map cd).sum
def Bl (t:UInt16):Nat->List ByteArray->Nat
 |_,[]=>0
 |i,x::r=>x.size+(if (t.toNat:Int)=16\/i=0 then 1 else 0)+Bl t (i+1) r
theorem aFx (l:List Name):Bs l<=gu cd l:=by
 induction l with
 |nil=>exact zza _
 |cons a l ih=>simp only [Bs,List.map_cons,List.sum_cons,gu,List.foldr_cons] at ih ⊢;omega
theorem aE9 (t:UInt16) (l:List ByteArray):∀ i,Bl t i l<=gu ByteArray.size l:=by
 induction l with
 |nil=>intro i;exact zza _
 |cons a l ih=>
  intro i;have:=ih (i+1);simp only [Bl,gu,List.foldr_cons] at this ⊢
  split<;>omega
def Md (s:Shape) (t:UInt16) (d:cq):Int:=d.raw.length+d.nums.length * s.size+Bs d.names+Bl t 0 d.texts
theorem aDz {l:List Name} {i:Nat} {c:Name} (h:l.drop i=c::l.drop (i+1)):Bs (l.drop i)=cd c+Bs (l.drop (i+1)):=by rw [h];simp [Bs]
theorem aD2 {t:UInt16} {l:List ByteArray} {i:Nat} {c:ByteArray} (h:l.drop i=c::l.drop (i+1)):Bl t i (l.drop i)=c.size+(if (t.toNat:Int)=16\/i=0 then 1 else 0)+Bl t (i+1) (l.drop (i+1)):=by rw [h];rfl
set_option maxHeartbeats 4000000 in
theorem awz (s:Shape) (t:UInt16) (d:cq) (hd:da d) (hs : 0<=s.size/\s.size<=4):wl PP [azd] 0 (Tryz.f173.body.getD .skip) (c9 PP Tryz.f173.results.toList (fun r st=>(r1 (bb .i64)).get true st.h r=some (Md s t d))) (cp 0 [cj.val false t,pw.val false s,bc.val false d]) (bg []):=by
 obtain ⟨l1,l2,l3,l4⟩:=hd.lens;have hn:=aFx d.names;have ht:=aE9 t d.texts 0;have hw:gu cd d.names+gu ByteArray.size d.texts<=16777216:=by unfold da Ce at hd;omega
 have hm0 : 0<=(d.nums.length:Int) * s.size:=Int.mul_nonneg zO hs.1;have hm1:(d.nums.length:Int) * s.size<=d.nums.length * 4:=Int.mul_le_mul_of_nonneg_left hs.2 zO;have hz:Md s t d=d.raw.length+d.nums.length * s.size+Bs d.names+Bl t 0 d.texts:=rfl;obtain ⟨A,hA⟩:∃ A:Int,A=d.raw.length+d.nums.length * s.size:=⟨_,rfl⟩;rw [hz,<- hA];have pP : 0<=A/\A<=134217728:=zO;unfold Tryz.f173;simp only [x6,iy,bz];simp only [↓wR,zT,simprocAttr];simp (disch:=omega) only [zW];rw [<- hA];refine dq [0,5,7,8] (fun (i:Nat)=>[.sc (.int .u16 t.toNat),.ptr 0 0,zi (A+(Bs d.names - Bs (d.names.drop i):Nat)),zi i]) (fun _=>[some (.row [zv d.names,zu d.nums,zn d.texts,zw d.raw] 0 2 116)]) (fun i=>i<=d.names.length/\Bs (d.names.drop i)<=Bs d.names) (fun i=>d.names.length - i) 0 ⟨zzb _,zza _⟩ (by simp only [↓wR,zT,simprocAttr]<;>first|rfl|(rw [List.drop_zero,Nat.sub_self,Int.add_zero])) zS ?_;rintro i ⟨hi,hx⟩;simp only [↓wR,zT,simprocAttr];rw [bh];refine ⟨fun h=>?_,fun h=>?_⟩
 ·obtain ⟨c,hc,aF,hlt⟩:=du (zp h);have e1:=aDz aF;have oX:=hd.name c (zm hc)
  repeat (first|simp only [↓wR,zT,simprocAttr,h,hc,Ev,oX.fit]|simp (disch:=omega) only [zW])
  exact ⟨i+1,⟨hlt,zO⟩,zO,zF⟩
 rw [eu (zq h)];have e0:Bs []=0:=rfl;rw [e0,Nat.sub_zero];simp only [↓wR,zT,simprocAttr,h];refine dq [0,5,7,9] (fun (i:Nat)=>[.sc (.int .u16 t.toNat),.ptr 0 0,zi (A+Bs d.names+(Bl t 0 d.texts - Bl t i (d.texts.drop i):Nat)),zi i]) (fun _=>[some (.row [zv d.names,zu d.nums,zn d.texts,zw d.raw] 0 2 116)]) (fun i=>i<=d.texts.length/\Bl t i (d.texts.drop i)<=Bl t 0 d.texts) (fun i=>d.texts.length - i) 0 ⟨zzb _,zza _⟩ (by simp only [↓wR,zT,simprocAttr]<;>first|rfl|(rw [List.drop_zero,Nat.sub_self,Int.add_zero])) zS ?_;rintro i ⟨hi,hx⟩;simp only [↓wR,zT,simprocAttr];rw [bh];refine ⟨fun h2=>?_,fun h2=>?_⟩
 ·obtain ⟨c,hc,aF,hlt⟩:=du (zp h2);have e1:=aD2 (t:=t) aF
  repeat (first|simp only [↓wR,zT,simprocAttr,h2,hc]|simp (disch:=omega) only [zW])
  rw [cf];refine ⟨fun ⟨h3,e3⟩=>?_,fun ⟨h3,e3⟩=>?_⟩
  ·rw [if_pos (.inl e3)] at e1
   repeat (first|simp only [↓wR,zT,simprocAttr,h3]|simp (disch:=omega) only [zW])
   exact ⟨i+1,⟨hlt,zO⟩,zO,zF⟩
  ·simp only [↓wR,zT,simprocAttr,h3];rw [cf];refine ⟨fun ⟨h4,e4⟩=>?_,fun ⟨h4,e4⟩=>?_⟩
   ·rw [if_pos (.inr zO)] at e1
    repeat (first|simp only [↓wR,zT,simprocAttr,h4]|simp (disch:=omega) only [zW])
    exact ⟨i+1,⟨hlt,zO⟩,zO,zF⟩
   ·rw [if_neg zO] at e1
    repeat (first|simp only [↓wR,zT,simprocAttr,h4]|simp (disch:=omega) only [zW])
    exact ⟨i+1,⟨hlt,zO⟩,zO,zF⟩
 rw [eu (zq h2)];have e1:Bl t i []=0:=by cases i<;>rfl
 rw [e1,Nat.sub_zero];simp only [↓wR,zT,simprocAttr,h2]
noncomputable def Mt (x:UInt16 × Shape × cq × Unit):Option AV:=if da x.2.2.1/\(0<=x.2.1.size/\x.2.1.size<=4) then some ((r1 (bb .i64)).E true (Md x.2.1 x.1 x.2.2.1)) else none
theorem am7 (x:UInt16 × Shape × cq × Unit) (r:AV) (h:Mt x=some r):bj PP 173 ((aC cj (aC pw (aC bc a0))).E x) r:=by obtain ⟨hc,rfl⟩:=zI h;exact az (ar.cons (aq Ug) (ar.nil PP)) Tryz.func173 zK zK zK zL (r1 (bb .i64)) true (Md x.2.1 x.1 x.2.2.1) (awz x.2.1 x.1 x.2.2.1 hc.1 hc.2)
noncomputable abbrev aHg:zE:=(173,true,cx (aC cj (aC pw (aC bc a0))) Mt)
theorem aeb (s:Shape):(⟨s.names,s.nums,s.size,s.texts,s.raw⟩:Shape)=s:=rfl
theorem Fi (t:UInt16):((t.toNat:Int)=16/\(c8 t).texts = -1/\(c8 t).nums=0/\(c8 t).size=0/\(c8 t).raw=0)\/((t.toNat:Int)=257/\(c8 t).texts=2/\(c8 t).nums=1/\(c8 t).size=1/\(c8 t).raw=0) \/
 ((t.toNat:Int)≠16/\(t.toNat:Int)≠257/\(c8 t).texts=0/\(((c8 t).size=0/\(c8 t).nums=0)\/(c8 t).size=2\/(c8 t).size=4)/\((t.toNat:Int)=6->(c8 t).raw=0)):=by
 unfold c8
 split
 ·exact .inr (.inr ⟨zO,zO,rfl,.inl ⟨rfl,rfl⟩,zO⟩)
 split
 ·exact .inr (.inr ⟨zO,zO,rfl,.inl ⟨rfl,rfl⟩,zO⟩)
 split
 ·exact .inr (.inr ⟨zO,zO,rfl,.inl ⟨rfl,rfl⟩,zO⟩)
 split
 ·exact .inr (.inr ⟨zO,zO,rfl,.inl ⟨rfl,rfl⟩,zO⟩)
 split
 ·exact .inr (.inr ⟨zO,zO,rfl,.inl ⟨rfl,rfl⟩,zO⟩)
 split
 ·exact .inr (.inr ⟨zO,zO,rfl,.inr (.inr rfl),fun _=>rfl⟩)
 split
 ·exact .inr (.inr ⟨zO,zO,rfl,.inr (.inl rfl),zO⟩)
 split
 ·exact .inr (.inr ⟨zO,zO,rfl,.inr (.inl rfl),zO⟩)
 split
 ·exact .inl ⟨by assumption,rfl,rfl,rfl,rfl⟩
 split
 ·exact .inr (.inl ⟨by assumption,rfl,rfl,rfl,rfl⟩)
 ·exact .inr (.inr ⟨zO,zO,rfl,.inl ⟨rfl,rfl⟩,zO⟩)
theorem Nt {α:Type} {p q : α->Bool}:∀ {l:List α},(∀ x ∈ l,p x=q x)->l.any p=l.any q
 | [],_=>rfl
 |a::l,h=>by rw [List.any_cons,List.any_cons,h a (by simp),Nt (fun x hx=>h x (by simp [hx]))]
theorem aD4 (s:Shape) (hs:s.size=0\/s.size=1\/s.size=2\/s.size=4) (l:List UInt32) (h0:s.size=0->l=[]):(s.size<4/\(l.any fun n=>decide (Da s<=(n.toNat:Int)))=true)↔(l.any fun n=>decide ((Bi s.size).toNat<n.toNat))=true:=by
 have hb:∀ n:UInt32,n.toNat<4294967296:=fun n=>n.toNat_lt
 rcases hs with h|h|h|h
 ·rw [h0 h];simp
 ·have e1:Da s=256:=by unfold Da;rw [h];rfl
  have e2:(Bi s.size).toNat=255:=by rw [h];rfl
  rw [e1,e2,Nt (q:=fun n=>decide (255<n.toNat)) (fun n _=>by rw [decide_eq_decide];omega)];exact ⟨fun q=>q.2,fun q=>⟨zO,q⟩⟩
 ·have e1:Da s=65536:=by unfold Da;rw [h];rfl
  have e2:(Bi s.size).toNat=65535:=by rw [h];rfl
  rw [e1,e2,Nt (q:=fun n=>decide (65535<n.toNat)) (fun n _=>by rw [decide_eq_decide];omega)];exact ⟨fun q=>q.2,fun q=>⟨zO,q⟩⟩
 ·have e2:(Bi s.size).toNat=4294967295:=by rw [h];rfl
  rw [e2];refine ⟨fun q=>by omega,fun q=>?_⟩;obtain ⟨n,_,hn⟩:=List.any_eq_true.1 q;have:=hb n;simp at hn;omega
theorem abl (t:UInt16) (d:cq):G8 (c8 t) t d=tr (c8 t) t d:=by
 have hk:=Fi t;unfold G8 tr aga asd S5;by_cases hb:(d.names.length:Int)≠(c8 t).names\/(d.nums.length:Int)≠(c8 t).nums\/(0<=(c8 t).raw/\(d.raw.length:Int)≠(c8 t).raw)
 ·rw [if_pos hb,if_pos (by unfold rr;omega)]
 rw [if_neg hb];have hm:=aD4 (c8 t) zO d.nums (fun e=>zzf zO);by_cases hm1:(d.nums.any fun n=>decide ((Bi (c8 t).size).toNat<n.toNat))=true
 ·rw [if_pos (hm.2 hm1),if_pos hm1,ite_self]
 rw [if_neg (fun q=>hm1 (hm.1 q)),if_neg hm1];rcases hk with ⟨k1,k2,_⟩|⟨k1,k2,_⟩|⟨k1,k2,k3,_⟩
 ·rw [if_neg (show ¬ (t.toNat:Int)=257 by omega),if_neg (show ¬ (t.toNat:Int)=257 by omega),if_neg (show ¬ (c8 t).texts=0 by omega)];by_cases hl:d.texts.length=0
  ·rw [if_pos (by unfold rr;omega),zq zO,Bool.false_and]
  ·rw [if_neg (by unfold rr;omega),zp zO,Bool.true_and];cases ha:(d.texts.any fun x=>decide (255<x.size)) with
   |true=>rw [if_pos ⟨k1,rfl⟩];rfl
   |false=>rw [if_neg (by rintro ⟨_,q⟩;cases q)];rfl
 ·rw [if_pos k1,if_pos k1];by_cases hl:d.texts.length=2
  ·rw [if_neg (show ¬ rr (c8 t) d by unfold rr;omega),zp hl,Bool.true_and,if_neg (fun q=>by have:=q.1;omega)]
  ·rw [if_pos (show rr (c8 t) d by unfold rr;omega),zq hl,Bool.false_and]
 ·rw [if_neg k2,if_neg k2,if_pos k3];by_cases hl:d.texts.length=0
  ·rw [if_neg (show ¬ rr (c8 t) d by unfold rr;omega),zp hl,if_neg (fun q=>by have:=q.1;omega)]
  ·rw [if_pos (show rr (c8 t) d by unfold rr;omega),zq hl]
theorem Zo:∀ {l:List Name},kx l=0->(l.flatMap l9).length=Bs l
 | [],_=>rfl
 |n::l,h=>by
  unfold kx at h
  split at h
  ·exact absurd h (by assumption)
  ·rename_i h1;have h2:dk n=0:=zO;have h3:=xw n;rw [List.flatMap_cons,za,Zo h];simp only [l9,h2,ne_eq,not_true,if_false,nameBytes,za,zyg,Bs,List.map_cons,List.sum_cons];omega
theorem Yo (t:UInt16):∀ (l:List ByteArray) (i:Nat),(qy t i l).length=Bl t i l
 | [],i=>rfl
 |x::l,i=>by
  have:=Yo t l (i+1);have hx:x.data.toList.length=x.size:=by simp
  simp only [qy,Bl,za,this,hx]
  split<;>simp<;>omega
theorem Xi (t:UInt16) (hs : 0<=(c8 t).size/\(c8 t).size<=4):∀ l:List UInt32,((l.flatMap (Di t)).length:Int)=l.length * (c8 t).size
 | []=>by simp
 |n::l=>by
  have:=Xi t hs l;have h1:((Di t n).length:Int)=(c8 t).size:=by unfold Di;rw [zzt,Ki];omega
  rw [List.flatMap_cons,za,List.length_cons,Int.natCast_add,this,h1,Int.natCast_add,Int.add_mul];omega
theorem az9 (t:UInt16) (d:cq) (hf:tr (c8 t) t d=true) (hn:kx d.names=0):Md (c8 t) t d=((oo t d).length:Int):=by
 have hk:=Fi t;have h1:=Xi t (Cy t) d.nums;have h2:=Zo hn;have h3:=Yo t d.texts 0;unfold Md oo;change ((yq t d).length:Int)=_ at h1;change (ui d).length=_ at h2;change (tk t d).length=_ at h3
 split
 ·rename_i h6;rw [<- abl] at hf;unfold G8 at hf
  split at hf
  ·cases hf
  ·rename_i hb;unfold rr at hb;have e1:d.texts=[]:=zzf zO;rw [e1];rw [za];have:Bl t 0 []=0:=rfl;omega
 ·simp only [za];omega
set_option maxHeartbeats 4000000 in
theorem afe (t:UInt16) (d:cq) (hd:da d):wl PP [rOf,aIu,Pg,aHg] 0 (Tryz.f123.body.getD .skip) (c9 PP Tryz.f123.results.toList (fun r st=>(r1 (bb .i64)).get true st.h r=some (ek t d))) (cp 0 [cj.val false t,bc.val false d]) (bg []):=by
 have hs:=Cy t;have hl:=hd.lens;have eC:Xp (c8 t) t:=fun e=>by have:=Fi t;omega
 have hsz:=az9 t d;unfold Tryz.f123;simp only [iy,bz];simp only [↓wR,zT,simprocAttr,age,x6];unfold ek;rw [cw];refine ⟨fun hb=>?_,fun hb=>?_⟩
 ·have hb':om t=true:=by simpa using hb
  rw [if_pos hb'];simp only [↓wR,zT,simprocAttr,hb]
 have hb':om t=false:=by simpa using hb
 rw [if_neg (by rw [hb'];decide)];simp only [↓wR,zT,simprocAttr,hb,jg,aeb,Pz,hd,eC,abl];rw [cw];refine ⟨fun hf=>?_,fun hf=>?_⟩
 ·rw [if_pos (by simpa using hf)];simp only [↓wR,zT,simprocAttr,hf]
 have hf':tr (c8 t) t d=true:=by simpa using hf
 rw [if_neg (by rw [hf'];decide)];simp only [↓wR,zT,simprocAttr,hf];refine dq [0,3,5,7] (fun (i:Nat)=>[.sc (.int .u16 t.toNat),.ptr 0 0,.ptr 1 0,zi i]) (fun _=>[some (.row [zv d.names,zu d.nums,zn d.texts,zw d.raw] 0 2 116),some (.row [.sc (.int .i64 (c8 t).names),.sc (.int .i64 (c8 t).nums),.sc (.int .i64 (c8 t).texts),.sc (.int .i64 (c8 t).raw),.sc (.int .i64 (c8 t).size)] 0 2 209)]) (fun i=>i<=d.names.length/\kx d.names=kx (d.names.drop i)) (fun i=>d.names.length - i) 0 ⟨zzb _,rfl⟩ zS zS ?_;rintro i ⟨hi,hx⟩;simp only [↓wR,zT,simprocAttr];rw [bh];refine ⟨fun h=>?_,fun h=>?_⟩
 ·obtain ⟨c,hc,aF,hlt⟩:=du (zp h);rw [Va aF] at hx;simp only [↓wR,zT,simprocAttr,h,hc,Af,(hd.name c (zm hc)).fit];rw [cw];refine ⟨fun h1=>?_,fun h1=>?_⟩
  ·have he:dk c≠0:=by simpa using h1
   rw [if_pos he] at hx;rw [if_pos (by rw [hx];exact he),hx];simp only [↓wR,zT,simprocAttr,h1]
  ·have he:dk c=0:=by simpa using h1
   rw [if_neg zO] at hx
   repeat (first|simp only [↓wR,zT,simprocAttr,h1]|simp (disch:=omega) only [zW])
   exact ⟨i+1,⟨hlt,hx⟩,zO,zF⟩
 rw [eu (zq h)] at hx;have hx0:kx d.names=0:=hx;rw [if_neg (by rw [hx];decide)];simp only [↓wR,zT,simprocAttr,h,jg,aeb,Mt,hd,hs,hsz hf' hx0];rw [bh];refine ⟨fun h2=>?_,fun h2=>?_⟩
 ·rw [if_pos zO];simp only [↓wR,zT,simprocAttr,h2]
 ·rw [if_neg zO];simp only [↓wR,zT,simprocAttr,h2]
noncomputable def qq (x:UInt16 × cq × Unit):Option AV:=if da x.2.1 then some ((r1 (bb .i64)).E true (ek x.1 x.2.1)) else none
theorem C8 (x:UInt16 × cq × Unit) (r:AV) (h:qq x=some r):bj PP 123 ((aC cj (aC bc a0)).E x) r:=by obtain ⟨hc,rfl⟩:=zI h;exact az (ar.cons (aq Wp) (ar.cons (aq aui) (ar.cons (aq Ba) (ar.cons (aq am7) (ar.nil PP))))) Tryz.func123 zK zK zK zL (r1 (bb .i64)) true (ek x.1 x.2.1) (afe x.1 x.2.1 hc)
noncomputable abbrev M7:zE:=(123,true,cx (aC cj (aC bc a0)) qq)
theorem afz (n:Name) (hn:aw n):wl PP [Pg] 0 (Tryz.f204.body.getD .skip) (c9 PP Tryz.f204.results.toList (fun r st=>(r2 (cg ca) (bb .i64)).get true st.h r=some (l9 n,dk n))) (cp 0 [aj.val false n]) (bg []):=by
 unfold Tryz.f204;simp only [bz];have bD:=hn.lt;simp only [↓wR,zT,simprocAttr,Af,hn.fit];rw [cw];refine ⟨fun h=>?_,fun h=>?_⟩
 ·have he:dk n≠0:=by simpa using h
  have hb:l9 n=[]:=if_pos he;simp only [↓wR,zT,simprocAttr,h,hb]
 have he:dk n=0:=by simpa using h
 have hb:l9 n=nameBytes n:=if_neg zO;rw [hb,he];simp only [↓wR,zT,simprocAttr,h];refine fg [0,6,5] (fun (x:Nat × List UInt8)=>[zn n,.sc (.int .i64 x.1),.sl 0 0 x.2.length 1]) (fun x=>[some (.row (x.2.map (ca.val false)) 0 0 5)]) (fun x=>x.2++(n.drop x.1).flatMap je=n.flatMap je/\x.1<=n.length) (fun x=>n.length - x.1) (0,[]) ⟨rfl,zzb _⟩ zX ?_;rintro ⟨i,x⟩ ⟨hR,hx⟩;simp only at hR hx;have kA:=xw n;have hsm:=mw he;simp only [↓wR,zT,simprocAttr];rw [bh];refine ⟨fun h2=>?_,fun h2=>?_⟩
 ·obtain ⟨c,hc,hd,hlt⟩:=du (zp h2);rw [hd,List.flatMap_cons] at hR;have hl:x.length+(je c).length<=(n.flatMap je).length:=by rw [<- hR];simp
  rw [D1] at hl
  repeat (first|simp only [↓wR,zT,simprocAttr,h2,hc]|simp (disch:=omega) only [zW])
  refine ⟨(i+1,x++je c),⟨by rw [<- hR];simp,hlt⟩,by simp;omega,?_,by simp only [je,zzw,List.map_cons,zzc,List.singleton_append,Ge]⟩;simp only [List.cons.injEq,and_true,true_and,AV.sc.injEq,Value.int.injEq,AV.sl.injEq,je,za,List.length_cons];refine ⟨by (try simp (disch:=omega) only [zW]);simp,by simp;omega⟩
 ·rw [eu (zq h2)] at hR;obtain rfl:x=n.flatMap je:=by simpa using hR
  have hcl:(n.flatMap je).length<=16777216:=by unfold aw at hn;omega
  repeat (first|simp only [↓wR,zT,simprocAttr,h2]|simp (disch:=omega) only [zW])
  rfl
noncomputable def su (x:Name × Unit):Option AV:=if aw x.1 then some ((r2 (cg ca) (bb .i64)).E true ((l9 x.1,dk x.1))) else none
theorem Zw (x:Name × Unit) (r:AV) (h:su x=some r):bj PP 204 ((aC aj a0).E x) r:=by obtain ⟨hc,rfl⟩:=zI h;exact az (ar.cons (aq Ba) (ar.nil PP)) Tryz.func204 zK zK zK zL (r2 (cg ca) (bb .i64)) true ((l9 x.1,dk x.1)) (afz x.1 hc)
noncomputable abbrev as1:zE:=(204,true,cx (aC aj a0) su)
theorem aGt {t:UInt16} {d:cq} (h:ek t d=0):(t.toNat:Int)=6->d.names.length=2/\d.texts=[]/\d.raw=[]:=by
 intro h6;unfold ek at h
 split at h
 ·cases h
 split at h
 ·cases h
 rename_i hf;have hf':tr (c8 t) t d=true:=by cases hx:tr (c8 t) t d with|true=>rfl|false=>exact absurd hx hf
 rw [<- abl] at hf';have hk:=Fi t;have hn:(c8 t).names=2:=by unfold c8;rw [if_neg zO,if_neg zO,if_neg zO,if_neg zO,if_neg zO,if_pos h6]
 unfold G8 at hf'
 split at hf'
 ·cases hf'
 ·rename_i hb;unfold rr at hb;exact ⟨zO,zzf zO,zzf zO⟩
noncomputable def Pr (t:UInt16) (d:cq):List UInt8:=if (t.toNat:Int)=6 then ui d else []
noncomputable def ajq (t:UInt16) (d:cq):List UInt8:=if (t.toNat:Int)=6 then [] else ui d
theorem aA8 {t:UInt16} {d:cq} (h:(t.toNat:Int)=6->d.texts=[]/\d.raw=[]):oo t d=Pr t d++yq t d++ajq t d++tk t d++d.raw:=by
 unfold oo Pr ajq
 split
 ·rename_i h6;obtain ⟨e1,e2⟩:=h h6;have:tk t d=[]:=by unfold tk;rw [e1];rfl
  rw [this,e2];simp
 ·simp
set_option maxHeartbeats 8000000 in
theorem ay7 (t:UInt16) (d:cq) (hd:da d) (h0:ek t d=0):wl PP [rOf,as1,aFd] 0 (Tryz.f183.body.getD .skip) (c9 PP Tryz.f183.results.toList (fun r st=>(r1 (cg ca)).get true st.h r=some (oo t d))) (cp 0 [cj.val false t,bc.val false d]) (bg []):=by
 have mC:=aGt h0;have hl:=hd.lens;have hk:=hd.written t;have hs:=Cy t;have hpl:(Pr t d).length<=16777216:=by unfold Pr;split;exact hk.2.1;simp
 have cF:(ajq t d).length<=16777216:=by unfold ajq;split;simp;exact hk.2.1
 rw [aA8 (fun e=>(mC e).2)];unfold Tryz.f183;simp only [iy,bz];simp only [↓wR,zT,simprocAttr,age,x6];rw [cf];refine ⟨fun ⟨h6,e6⟩=>?_,fun ⟨h6,e6⟩=>?_⟩;simp only [↓wR,zT,simprocAttr,h6];have aJ:=(mC e6).1;refine fg [0,3,5,8,7] (fun (x:Nat × List UInt8)=>[.sc (.int .u16 t.toNat),.ptr 0 0,.ptr 1 0,zi x.1,.sl 2 0 x.2.length 1]) (fun x=>[some (.row [zv d.names,zu d.nums,zn d.texts,zw d.raw] 0 2 116),some (.row [.sc (.int .i64 (c8 t).names),.sc (.int .i64 (c8 t).nums),.sc (.int .i64 (c8 t).texts),.sc (.int .i64 (c8 t).raw),.sc (.int .i64 (c8 t).size)] 0 2 209),some (.row (x.2.map (ca.val false)) 0 0 5)]) (fun x=>x.1<=2/\x.2++(d.names.drop x.1).flatMap l9=ui d) (fun x=>2 - x.1) (0,[]) ⟨zzb _,rfl⟩ zX ?_;rintro ⟨i,x⟩ ⟨hi,hx⟩;simp only at hi hx;simp only [↓wR,zT,simprocAttr];rw [bh];refine ⟨fun h=>?_,fun h=>?_⟩
 ·obtain ⟨c,hc⟩:∃ c,d.names[i]? = some c:=⟨_,zh zO⟩;have aF:=Eh hc;rw [Cn _ aF] at hx;have bY:x.length+(l9 c).length<=(ui d).length:=by rw [<- hx];simp
  repeat (first|simp only [↓wR,zT,simprocAttr,h,hc,su,hd.name c (zm hc)]|simp (disch:=omega) only [zW])
  exact ⟨(i+1,x++l9 c),⟨zO,by rw [zzc];exact hx⟩,by simp;omega,zF,zF⟩
 have bE:d.names.drop i=[]:=zzx zO;rw [bE] at hx;have iK:Pr t d=x:=by unfold Pr;rw [if_pos e6];simpa using hx.symm
 obtain ⟨y1,hy1⟩:∃ y1,y1=x++yq t d:=⟨_,rfl⟩;rw [iK] at hpl ⊢;rw [<- hy1];have jO:y1.length<=83886080:=by rw [hy1,za];omega
 simp only [↓wR,zT,simprocAttr,h];refine fg [0,3,5,11,7] (fun (x:Nat × List UInt8)=>[.sc (.int .u16 t.toNat),.ptr 0 0,.ptr 1 0,zi x.1,.sl 2 0 x.2.length 1]) (fun x=>[some (.row [zv d.names,zu d.nums,zn d.texts,zw d.raw] 0 2 116),some (.row [.sc (.int .i64 (c8 t).names),.sc (.int .i64 (c8 t).nums),.sc (.int .i64 (c8 t).texts),.sc (.int .i64 (c8 t).raw),.sc (.int .i64 (c8 t).size)] 0 2 209),some (.row (x.2.map (ca.val false)) 0 0 5)]) (fun x=>x.1<=d.nums.length/\x.2++(d.nums.drop x.1).flatMap (Di t)=y1) (fun x=>d.nums.length - x.1) (0,x) ⟨zzb _,hy1.symm⟩ zX ?_;clear hx h hi bE h6 iK;rotate_left;simp only [↓wR,zT,simprocAttr,h6];have iK:Pr t d=[]:=by unfold Pr;rw [if_neg e6]
 obtain ⟨y1,hy1⟩:∃ y1,y1=[]++yq t d:=⟨_,rfl⟩;rw [iK,<- hy1];have jO:y1.length<=83886080:=by rw [hy1,List.nil_append];omega
 refine fg [0,3,5,11,7] (fun (x:Nat × List UInt8)=>[.sc (.int .u16 t.toNat),.ptr 0 0,.ptr 1 0,zi x.1,.sl 2 0 x.2.length 1]) (fun x=>[some (.row [zv d.names,zu d.nums,zn d.texts,zw d.raw] 0 2 116),some (.row [.sc (.int .i64 (c8 t).names),.sc (.int .i64 (c8 t).nums),.sc (.int .i64 (c8 t).texts),.sc (.int .i64 (c8 t).raw),.sc (.int .i64 (c8 t).size)] 0 2 209),some (.row (x.2.map (ca.val false)) 0 0 5)]) (fun x=>x.1<=d.nums.length/\x.2++(d.nums.drop x.1).flatMap (Di t)=y1) (fun x=>d.nums.length - x.1) (0,[]) ⟨zzb _,hy1.symm⟩ zX ?_;clear h6 iK
 all_goals
  clear hy1 hpl;rintro ⟨i,x⟩ ⟨hi,hx⟩;simp only at hi hx;simp only [↓wR,zT,simprocAttr];rw [bh];refine ⟨fun h=>?_,fun h=>?_⟩
  ·obtain ⟨c,hc,aF,hlt⟩:=du (zp h);rw [Cn _ aF] at hx;have bY:x.length+(Di t c).length<=y1.length:=by rw [<- hx];simp
   simp only [↓wR,zT,simprocAttr,h];refine ⟨zK,.inl ?_⟩
   repeat (first|simp only [↓wR,zT,simprocAttr,hc,D0,hs,S3]|simp (disch:=omega) only [zW])
   refine ⟨zK,?_⟩;exact ⟨(i+1,x++Di t c),⟨hlt,by rw [zzc];exact hx⟩,by simp;omega,zF,zF⟩
  rw [eu (zq h)] at hx;obtain rfl:x=y1:=by simpa using hx
  clear hx;simp only [↓wR,zT,simprocAttr,h];clear h hi;obtain ⟨y2,hy2⟩:∃ y2,y2=x++ajq t d:=⟨_,rfl⟩;have pV:y2.length<=100663296:=by rw [hy2,za];omega
  rw [<- hy2];refine fg [0,3,12,7] (fun (x:Nat × List UInt8)=>[.sc (.int .u16 t.toNat),.ptr 0 0,zi x.1,.sl 1 0 x.2.length 1]) (fun x=>[some (.row [zv d.names,zu d.nums,zn d.texts,zw d.raw] 0 2 116),some (.row (x.2.map (ca.val false)) 0 0 5)]) (fun p=>p.1<=d.names.length/\p.2++(if (t.toNat:Int)=6 then [] else (d.names.drop p.1).flatMap l9)=y2) (fun p=>d.names.length - p.1) (0,x) ⟨zzb _,hy2.symm⟩ zX ?_;clear hy2 jO;rintro ⟨i,z⟩ ⟨hi,hz⟩;simp only at hi hz;simp only [↓wR,zT,simprocAttr];rw [dh];refine ⟨fun ⟨h7,e7⟩=>?_,fun ⟨h7,e7⟩=>?_⟩
  all_goals try exact absurd e6 e7
  all_goals try exact absurd e7 e6
  first
   |(
    rw [if_pos e7] at hz;obtain rfl:z=y2:=by simpa using hz
    simp only [↓wR,zT,simprocAttr,h7])
   |(
    rw [if_neg e7] at hz;simp only [↓wR,zT,simprocAttr,h7];rw [bh];refine ⟨fun h8=>?_,fun h8=>?_⟩
    ·obtain ⟨c,hc,aF,hlt⟩:=du (zp h8);rw [Cn _ aF] at hz;have bY:z.length+(l9 c).length<=y2.length:=by rw [<- hz];simp
     repeat (first|simp only [↓wR,zT,simprocAttr,h8,hc,su,hd.name c (zm hc)]|simp (disch:=omega) only [zW])
     exact ⟨(i+1,z++l9 c),⟨hlt,by rw [if_neg e7,zzc];exact hz⟩,by simp;omega,zF,zF⟩
    rw [eu (zq h8)] at hz;obtain rfl:z=y2:=by simpa using hz
    simp only [↓wR,zT,simprocAttr,h8])
  clear hz hi;obtain ⟨y3,jP⟩:∃ y3,y3=z++tk t d:=⟨_,rfl⟩;have vR:y3.length<=117440512:=by rw [jP,za];omega
  rw [<- jP];refine fg [0,3,15,7] (fun (x:Nat × List UInt8)=>[.sc (.int .u16 t.toNat),.ptr 0 0,zi x.1,.sl 1 0 x.2.length 1]) (fun x=>[some (.row [zv d.names,zu d.nums,zn d.texts,zw d.raw] 0 2 116),some (.row (x.2.map (ca.val false)) 0 0 5)]) (fun p=>p.1<=d.texts.length/\p.2++qy t p.1 (d.texts.drop p.1)=y3) (fun p=>d.texts.length - p.1) (0,z) ⟨zzb _,jP.symm⟩ zX ?_;clear jP pV;rintro ⟨i,x⟩ ⟨hi,hx⟩;simp only at hi hx;simp only [↓wR,zT,simprocAttr];rw [bh];refine ⟨fun h=>?_,fun h=>?_⟩
  ·obtain ⟨c,hc,aF,hlt⟩:=du (zp h);rw [adt _ aF] at hx;have bY:x.length+((if (t.toNat:Int)=16\/i=0 then [UInt8.ofNat c.size] else []).length+c.size)<=y3.length:=by rw [<- hx];simp
   have hcs:c.data.toList.length=c.size:=by simp
   have fin:∀ b:List UInt8,x++(b++c.data.toList++qy t (i+1) (d.texts.drop (i+1)))=y3->x++b++c.data.toList++qy t (i+1) (d.texts.drop (i+1))=y3:=fun b hb=>by rw [<- hb];simp
   repeat (first|simp only [↓wR,zT,simprocAttr,h,hc]|simp (disch:=omega) only [zW])
   rw [cf];refine ⟨fun ⟨kQ,oF⟩=>?_,fun ⟨kQ,oF⟩=>?_⟩
   ·rw [if_pos (.inl oF)] at hx bY;simp only [List.length_cons,List.length_nil] at bY
    repeat (first|simp only [↓wR,zT,simprocAttr,kQ,hc]|simp (disch:=omega) only [zW])
    exact ⟨(i+1,x++[UInt8.ofNat c.size]++c.data.toList),⟨hlt,fin _ hx⟩,by simp;omega,zF,zF⟩
   ·repeat (first|simp only [↓wR,zT,simprocAttr,kQ]|simp (disch:=omega) only [zW])
    rw [cf];refine ⟨fun ⟨h0,e0⟩=>?_,fun ⟨h0,e0⟩=>?_⟩
    ·rw [if_pos (.inr zO)] at hx bY;simp only [List.length_cons,List.length_nil] at bY
     repeat (first|simp only [↓wR,zT,simprocAttr,h0,hc]|simp (disch:=omega) only [zW])
     exact ⟨(i+1,x++[UInt8.ofNat c.size]++c.data.toList),⟨hlt,fin _ hx⟩,by simp;omega,zF,zF⟩
    ·rw [if_neg zO] at hx bY;simp only [List.length_nil] at bY
     repeat (first|simp only [↓wR,zT,simprocAttr,h0,hc]|simp (disch:=omega) only [zW])
     exact ⟨(i+1,x++c.data.toList),⟨hlt,by have:=fin _ hx;simpa using this⟩,by simp;omega,zF,zF⟩
  rw [eu (zq h)] at hx;obtain rfl:x=y3:=by simpa [qy] using hx
  clear hx
  repeat (first|simp only [↓wR,zT,simprocAttr,h]|simp (disch:=omega) only [zW])
noncomputable def Lk (x:UInt16 × cq × Unit):Option AV:=if da x.2.1/\ek x.1 x.2.1=0 then some ((r1 (cg ca)).E true (oo x.1 x.2.1)) else none
theorem anf (x:UInt16 × cq × Unit) (r:AV) (h:Lk x=some r):bj PP 183 ((aC cj (aC bc a0)).E x) r:=by obtain ⟨hc,rfl⟩:=zI h;exact az (ar.cons (aq Wp) (ar.cons (aq Zw) (ar.cons (aq agw) (ar.nil PP)))) Tryz.func183 zK zK zK zL (r1 (cg ca)) true (oo x.1 x.2.1) (ay7 x.1 x.2.1 hc.1 hc.2)
noncomputable abbrev aF6:zE:=(183,true,cx (aC cj (aC bc a0)) Lk)
noncomputable def ltD (t:UInt16) (a b:cq):Bool:=decide (E0 t a b<0)
theorem afy (s:ByteArray):jr (fold s)=jr s:=by unfold jr;rw [Jh]
theorem Oq (n:Name):dk (fh n)=dk n:=by
 have h:tw (fh n)=tw n:=by
  unfold tw fh;rw [List.any_map]
  congr 1
  funext s
  simp only [Function.comp,afy]
 unfold dk;rw [h,D8]
theorem afa (l:List Name):kx (l.map fh)=kx l:=by
 induction l with
 |nil=>rfl
 |cons a l ih=>simp only [List.map_cons,kx,Oq,ih]
theorem aj6 (n:Name) (h:dk n=0):(l9 n).length=cd n:=by unfold l9;rw [if_neg zO];unfold nameBytes;rw [za,zyg,xw]
theorem Oo:∀ {l:List Name},kx l=0->∀ n ∈ l,dk n=0
 | [],_,n,h=>by cases h
 |a::l,e,n,h=>by
  rw [kx] at e
  split at e
  ·contradiction
  ·rename_i q;rcases zya.1 h with rfl|h
   ·omega
   ·exact Oo e n h
theorem aAb {l:List Name} (h:∀ n ∈ l,dk n=0):((l.map fh).flatMap l9).length=(l.flatMap l9).length:=by
 induction l with
 |nil=>rfl
 |cons a l ih=>
  have ha:=h a List.mem_cons_self;rw [List.map_cons,List.flatMap_cons,List.flatMap_cons,za,za,ih fun n hn=>h n (List.mem_cons_of_mem _ hn),aj6 _ (by rw [Oq];exact ha),aj6 _ ha,D8]
theorem P8 {t:UInt16} {d:cq} (h:ek t d=0):ek t (nj t d)=0:=by
 unfold nj
 split
 case isFalse=>exact h
 unfold ek at h ⊢
 split at h
 ·cases h
 rename_i h1
 split at h
 ·cases h
 rename_i h2
 split at h
 ·contradiction
 rename_i h3;have h4:=Oo (Decidable.not_not.1 h3);rw [if_neg h1,if_neg (by
  unfold tr at h2 ⊢;simpa only [zzo] using h2),if_neg (by rw [afa];exact h3)]
 have h5:(oo t { d with names:=d.names.map fh }).length=(oo t d).length:=by
  unfold oo ui yq tk
  split<;>simp only [za,aAb h4]
 rw [h5];exact h
def abb (l:List ba):Bool:=l.all fun s=>!decide ((20:Int)<s.data.length)
def Qr (z:ay):Bool:=abb z.ak && decide ((z.ak.length:Int)<=40)
theorem aG8 (z:ay) (hz:bo z):wl PP [] 0 (Tryz.f7.body.getD .skip) (c9 PP Tryz.f7.results.toList (fun r st=>(r1 bk).get true st.h r=some (Qr z))) (cp 0 [bf.val false z]) (bg []):=by
 have hl:=hz.len;unfold Tryz.f7;simp only [dy];simp only [↓wR,zT,simprocAttr];refine dq [1,3] (fun (i:Nat)=>[.ptr 0 0,zi i]) (fun _=>[(zZ z)]) (fun i=>i<=z.ak.length/\abb z.ak=abb (z.ak.drop i)) (fun i=>z.ak.length - i) 0 ⟨zzb _,rfl⟩ zS zS ?_;rintro i ⟨hi,hx⟩;simp only [↓wR,zT,simprocAttr];rw [bh];refine ⟨fun h=>?_,fun h=>?_⟩
 ·obtain ⟨c,hc,aF,hlt⟩:=du (zp h);have hx':abb z.ak=(!decide ((20:Int)<c.data.length) && abb (z.ak.drop (i+1))):=by rw [hx,aF];rfl
  repeat (first|simp only [↓wR,zT,simprocAttr,h,hc]|simp (disch:=omega) only [zW])
  rw [bh];refine ⟨fun h2=>?_,fun h2=>?_⟩
  ·rw [zp h2,Bool.not_true,Bool.false_and] at hx'
   repeat (first|simp only [↓wR,zT,simprocAttr,h2]|simp (disch:=omega) only [zW])
   rw [Qr,hx'];rfl
  ·rw [zq h2,Bool.not_false,Bool.true_and] at hx'
   repeat (first|simp only [↓wR,zT,simprocAttr,h2]|simp (disch:=omega) only [zW])
   exact ⟨i+1,⟨hlt,hx'⟩,zO,zF⟩
 ·rw [eu (zq h)] at hx;simp only [↓wR,zT,simprocAttr,h];rw [Qr,hx];rfl
noncomputable def Zh (x:ay × Unit):Option AV:=if bo x.1 then some ((r1 bk).E true (Qr x.1)) else none
theorem awj (x:ay × Unit) (r:AV) (h:Zh x=some r):bj PP 7 ((aC bf a0).E x) r:=by obtain ⟨hc,rfl⟩:=zI h;exact az (ar.nil PP) Tryz.func7 zK zK zK zL (r1 bk) true (Qr x.1) (aG8 x.1 hc)
noncomputable abbrev aGf:zE:=(7,true,cx (aC bf a0) Zh)
noncomputable def ef (z:ay) (n:Name):Int:=if fp z≠0 then fp z else if dk n≠0 then dk n else if dj n z.origin=false then 2 else 0
theorem aCj (z:ay) (n:Name) (hz:bo z) (hn:aw n):wl PP [aIc,gb,uf] 0 (Tryz.f41.body.getD .skip) (c9 PP Tryz.f41.results.toList (fun r st=>(r1 (bb .i64)).get true st.h r=some (ef z n))) (cp 0 [bf.val false z,aj.val false n]) (bg []):=by
 unfold Tryz.f41;simp only [dy,bz];simp only [↓wR,zT,simprocAttr,Lz,hz];unfold ef;rw [cw];refine ⟨fun h=>?_,fun h=>?_⟩
 ·have he:fp z≠0:=by simpa using h
  rw [if_pos he];simp only [↓wR,zT,simprocAttr,h]
 have he:fp z=0:=by simpa using h
 rw [if_neg zO];simp only [↓wR,zT,simprocAttr,h,sh,hn.fit];rw [cw];refine ⟨fun h2=>?_,fun h2=>?_⟩
 ·have he:dk n≠0:=by simpa using h2
  rw [if_pos he];simp only [↓wR,zT,simprocAttr,h2]
 have nS:dk n=0:=by simpa using h2
 rw [if_neg zO];simp only [↓wR,zT,simprocAttr,h2,kp,hn,hz.origin];rw [cw];refine ⟨fun h3=>?_,fun h3=>?_⟩
 ·have dP:dj n z.origin=false:=by simpa only [zyd] using h3
  rw [if_pos dP];simp only [↓wR,zT,simprocAttr,h3]
 ·have dP:dj n z.origin=true:=by simpa only [zyh] using h3
  rw [if_neg (by rw [dP];decide)];simp only [↓wR,zT,simprocAttr,h3]
noncomputable def K6 (x:ay × Name × Unit):Option AV:=if bo x.1/\aw x.2.1 then some ((r1 (bb .i64)).E true (ef x.1 x.2.1)) else none
theorem am8 (x:ay × Name × Unit) (r:AV) (h:K6 x=some r):bj PP 41 ((aC bf (aC aj a0)).E x) r:=by obtain ⟨hc,rfl⟩:=zI h;exact az (ar.cons (aq aoo) (ar.cons (aq sx) (ar.cons (aq oh) (ar.nil PP)))) Tryz.func41 zK zK zK zL (r1 (bb .i64)) true (ef x.1 x.2.1) (aCj x.1 x.2.1 hc.1 hc.2)
noncomputable abbrev aGs:zE:=(41,true,cx (aC bf (aC aj a0)) K6)
def ec (z:ay):Name->Name
 | []=>[]
 |a::r=>if oy z (a::r)=true then a::r else ec z r
theorem He {z:ay} {m:Name} (hu:dj m z.origin=true) (hh:oy z m=false):∃ a r,m=a::r/\dj r z.origin=true/\ec z m=ec z r:=by
 have hs:dt m z.origin=false:=by
  unfold oy at hh;rw [hu,Bool.true_and] at hh;cases h:dt m z.origin with
  |false=>rfl
  |true=>rw [h] at hh;cases hh
 have bI:fh z.origin <:+ fh m:=by simpa [dj] using hu
 have hs':fh m≠fh z.origin:=by simpa [dt] using hs
 cases m with
 |nil=>exact (hs' (List.suffix_nil.1 (by simpa only [fh,List.map_nil] using bI)).symm).elim
 |cons a r=>
  refine ⟨a,r,rfl,?_,by rw [ec,if_neg (by rw [hh];decide)]⟩;have h2:fh z.origin <:+ fold a::fh r:=bI;rcases List.suffix_cons_iff.1 h2 with h3|h3
  ·exact (hs' h3.symm).elim
  ·simpa [dj] using h3
theorem A3 {z:ay} {m:Name} (hh:oy z m=true):ec z m=m:=by
 cases m with
 |nil=>rfl
 |cons a r=>rw [ec,if_pos hh]
theorem asc (z:ay) (n:Name) (hz:bo z) (hn:aw n) (hu:dj n z.origin=true):wl PP [aH4,ve] 0 (Tryz.f43.body.getD .skip) (c9 PP Tryz.f43.results.toList (fun r st=>(r1 aj).get true st.h r=some (ec z n))) (cp 0 [bf.val false z,aj.val false n]) (bg []):=by
 unfold Tryz.f43;simp only [dy,bz];simp only [↓wR,zT,simprocAttr];refine dq [1,2] (fun (m:Name)=>[zn m,.ptr 0 0]) (fun _=>[(zZ z)]) (fun m=>aw m/\dj m z.origin=true/\ec z n=ec z m) (fun m=>m.length) n ⟨hn,hu,rfl⟩ zS zS ?_;rintro m ⟨hm,wN,hx⟩;simp only [↓wR,zT,simprocAttr,S6,hz,hm];rw [cw];refine ⟨fun h=>?_,fun h=>?_⟩
 ·simp only [↓wR,zT,simprocAttr,h,oe,hm];rw [hx,A3 h]
 ·obtain ⟨a,r,rfl,qK,hcr⟩:=He wN h;have hr:aw r:=hm.drop 1;rw [hcr] at hx;simp only [↓wR,zT,simprocAttr,h];exact ⟨r,⟨hr,qK,hx⟩,by simp,rfl⟩
noncomputable def Fx (x:ay × Name × Unit):Option AV:=if (bo x.1/\aw x.2.1)/\dj x.2.1 x.1.origin=true then some ((r1 aj).E true (ec x.1 x.2.1)) else none
theorem afd (x:ay × Name × Unit) (r:AV) (h:Fx x=some r):bj PP 43 ((aC bf (aC aj a0)).E x) r:=by obtain ⟨hc,rfl⟩:=zI h;exact az (ar.cons (aq aez) (ar.cons (aq px) (ar.nil PP))) Tryz.func43 zK zK zK zL (r1 aj) true (ec x.1 x.2.1) (asc x.1 x.2.1 hc.1.1 hc.1.2 hc.2)
noncomputable abbrev aAp:zE:=(43,true,cx (aC bf (aC aj a0)) Fx)
theorem Ax (z:ay) (n:Name):∃ k,ec z n=n.drop k:=by
 induction n with
 |nil=>exact ⟨0,rfl⟩
 |cons a r ih=>
  unfold ec
  split
  ·exact ⟨0,rfl⟩
  ·obtain ⟨k,hk⟩:=ih;exact ⟨k+1,by rw [hk];rfl⟩
theorem Pa {z:ay} {n:Name} (hn:aw n):aw (ec z n):=by obtain ⟨k,hk⟩:=Ax z n;rw [hk];exact hn.drop k
theorem aBz (n:Name) (hn:aw n):wl PP [] 0 (Tryz.f47.body.getD .skip) (c9 PP Tryz.f47.results.toList (fun r st=>(r1 aj).get true st.h r=some (pz::n))) (cp 0 [aj.val false n]) (bg []):=by have hl:=hn.lt;have aD:(n.length+1) * 16<=140737488355328:=zO;unfold Tryz.f47;simp only [bz];simp only [↓wR,zT,simprocAttr,aD,Nat.add_comm 1 n.length];rfl
noncomputable def Lx (x:Name × Unit):Option AV:=if aw x.1 then some ((r1 aj).E true (pz::x.1)) else none
theorem auw (x:Name × Unit) (r:AV) (h:Lx x=some r):bj PP 47 ((aC aj a0).E x) r:=by obtain ⟨hc,rfl⟩:=zI h;exact az (ar.nil PP) Tryz.func47 zK zK zK zL (r1 aj) true (pz::x.1) (aBz x.1 hc)
noncomputable abbrev aIx:zE:=(47,true,cx (aC aj a0) Lx)
theorem ae1 (n:Name) (k:Nat):cd (n.drop k)<=cd n:=by have:=nh (n.take k) (n.drop k);rw [zzm] at this;have h1:=(ju (n.take k) 0).2;omega
theorem N7 {z:ay} {n:Name} (h:dk n=0):aw (pz::ec z n):=by obtain ⟨k,hk⟩:=Ax z n;have h1:=ae1 n k;have h2:=mw h;have h3:=nh [pz] (ec z n);have h4:cd [pz]=3:=rfl;rw [hk] at h3 ⊢;simp only [List.singleton_append] at h3;unfold aw;omega
theorem rz {z:ay} {n:Name} (h:ef z n=0):fp z=0/\dk n=0/\dj n z.origin=true:=by
 unfold ef at h
 split at h
 ·contradiction
 split at h
 ·contradiction
 split at h
 ·cases h
 ·rename_i h1 h2 h3;exact ⟨zO,zO,by simpa using h3⟩
noncomputable def iz (z:ay) (n:Name):Cp × Int:=
 if ef z n≠0 then (xq 0 [] [],ef z n)
 else match k7 z n with
  |some c=>(xq 4 c [],0)
  |none=>
   if 0<(fl z n).length then (xq 1 n (ec z n),0)
   else if (ec z n).length=n.length then (xq 2 [] (ec z n),0)
   else if oy z (pz::ec z n)=true then (xq 3 (pz::ec z n) (ec z n),0)
   else (xq 0 [] (ec z n),0)
theorem aEx (z:ay) (n:Name) (hz:bo z) (hn:aw n):wl PP [aGs,aHk,aAp,zAt,ve,aIx,aH4] 0 (Tryz.f10.body.getD .skip) (c9 PP Tryz.f10.results.toList (fun r st=>(r2 qi (bb .i64)).get true st.h r=some (iz z n))) (cp 0 [bf.val false z,aj.val false n]) (bg []):=by
 unfold Tryz.f10;simp only [dy,bz];simp only [↓wR,zT,simprocAttr,K6,hz,hn];unfold iz;rw [cw];refine ⟨fun h=>?_,fun h=>?_⟩
 ·have he:ef z n≠0:=by simpa using h
  rw [if_pos he];simp only [↓wR,zT,simprocAttr,h]
 have he:ef z n=0:=by simpa using h
 obtain ⟨a1,a2,a3⟩:=rz he;rw [if_neg zO];have hcs:=Pa (z:=z) hn;have hst:=N7 (z:=z) a2;cases hc:k7 z n with
 |some c=>
  simp only [↓wR,zT,simprocAttr,h,J4,hz,hn,hc]
 |none=>
  simp only [↓wR,zT,simprocAttr,h,J4,hz,hn,hc,Option.isSome_none,Fx,a3,aka];rw [bh];refine ⟨fun h1=>?_,fun h1=>?_⟩
  ·rw [if_pos zO];simp only [↓wR,zT,simprocAttr,h1,oe,hn]
  rw [if_neg zO];simp only [↓wR,zT,simprocAttr,h1];rw [cf];refine ⟨fun ⟨h2,e2⟩=>?_,fun ⟨h2,e2⟩=>?_⟩
  ·rw [if_pos zO];simp only [↓wR,zT,simprocAttr,h2]
  rw [if_neg zO];simp only [↓wR,zT,simprocAttr,h2];refine ⟨zK,.inl ?_⟩;simp only [↓wR,zT,simprocAttr,Lx,hcs,S6,hz,hst];refine ⟨zK,?_⟩;rw [cw];refine ⟨fun h3=>?_,fun h3=>?_⟩
  ·rw [if_pos h3];simp only [↓wR,zT,simprocAttr,h3,Lx,hcs]
  ·rw [if_neg (by rw [h3];decide)];simp only [↓wR,zT,simprocAttr,h3]
noncomputable def pn (x:ay × Name × Unit):Option AV:=if bo x.1/\aw x.2.1 then some ((r2 qi (bb .i64)).E true (iz x.1 x.2.1)) else none
theorem Nl (x:ay × Name × Unit) (r:AV) (h:pn x=some r):bj PP 10 ((aC bf (aC aj a0)).E x) r:=by obtain ⟨hc,rfl⟩:=zI h;exact az (ar.cons (aq am8) (ar.cons (aq ad3) (ar.cons (aq afd) (ar.cons (aq azy) (ar.cons (aq px) (ar.cons (aq auw) (ar.cons (aq aez) (ar.nil PP)))))))) Tryz.func10 zK zK zK zL (r2 qi (bb .i64)) true (iz x.1 x.2.1) (aEx x.1 x.2.1 hc.1 hc.2)
noncomputable abbrev af6:zE:=(10,true,cx (aC bf (aC aj a0)) pn)
end Go.Proofs.YtjagjbceegbaiaaGreat
end
section
namespace Go.Proofs.YtjagjbceegbaiaaGreat
open Go.Vm
theorem aet (a:Name):dt a a=true:=ur.2 rfl
theorem W2 (a:Name):dj a a=true:=Ak.2 (List.suffix_refl _)
theorem ard (a:ByteArray) (n:Name):dj (a::n) n=true:=Ak.2 (List.suffix_cons _ _)
theorem ae5 {z:ay}:∀ {n:Name},dj n z.origin=true->oy z (ec z n)=true/\dj n (ec z n)=true:=by
 intro n
 induction n with
 |nil=>
  intro hu;cases hh:oy z [] with
  |true=>exact ⟨hh,W2 _⟩
  |false=>obtain ⟨a,r,h,_⟩:=He hu hh;cases h
 |cons a n ih=>
  intro hu;cases hh:oy z (a::n) with
  |true=>rw [A3 hh];exact ⟨hh,W2 _⟩
  |false=>
   obtain ⟨a',r,h,hr,hc⟩:=He hu hh;cases h;rw [hc];obtain ⟨h1,h2⟩:=ih hr;exact ⟨h1,aoq (ard a n) h2⟩
theorem aso {z:ay} {n:Name} (h:(ec z n).length=n.length):ec z n=n:=by
 obtain ⟨k,hk⟩:=Ax z n;rw [hk] at h ⊢;rw [zzt] at h;cases n with
 |nil=>exact List.drop_nil
 |cons a n=>
  have:k=0:=by simp at h;omega
  rw [this];rfl
theorem agz {z:ay} {n:Name} (h:(ec z n).length≠n.length):oy z n=false:=by
 cases hh:oy z n with
 |false=>rfl
 |true=>rw [A3 hh] at h;exact (h rfl).elim
theorem aHf {z:ay} {n:Name} (hg:G2 z) (hp : 0<(fl z n).length):oy z n=true:=by obtain ⟨s,hs⟩:=List.exists_mem_of_length_pos hp;obtain ⟨hs1,hs2⟩:=List.mem_filter.1 hs;have hi:=hg.inside s hs1;unfold oy;rw [<- aoe hs2,hi,Bool.true_and,Bool.or_eq_true];exact .inr (List.any_eq_true.2 ⟨s,hs1,atn hs2⟩)
inductive aG0 (z:ay) (n:Name):Prop
 |beyond (c:Name) (hc:k7 z n=some c) (h:iz z n=(xq 4 c [],0))
 |exact (hc:k7 z n=none) (hp : 0<(fl z n).length) (hh:oy z n=true) (h:iz z n=(xq 1 n n,0))
 |empty (hc:k7 z n=none) (hp:fl z n=[]) (hh:oy z n=true) (h:iz z n=(xq 2 [] n,0))
 |aJ2 (hc:k7 z n=none) (hp:fl z n=[]) (hh:oy z n=false) (hs:oy z (pz::ec z n)=true) (h:iz z n=(xq 3 (pz::ec z n) (ec z n),0))
 |none (hc:k7 z n=none) (hp:fl z n=[]) (hh:oy z n=false) (hs:oy z (pz::ec z n)=false) (h:iz z n=(xq 0 [] (ec z n),0))
theorem aau {z:ay} {n:Name} (h:ef z n=0):aG0 z n:=by
 obtain ⟨h1,h2,h3⟩:=rz h;have hg:=Co h1;have hf:iz z n=match k7 z n with
  |some c=>(xq 4 c [],0)
  |none=>
   if 0<(fl z n).length then (xq 1 n (ec z n),0)
   else if (ec z n).length=n.length then (xq 2 [] (ec z n),0)
   else if oy z (pz::ec z n)=true then (xq 3 (pz::ec z n) (ec z n),0)
   else (xq 0 [] (ec z n),0):=by unfold iz;rw [if_neg zO]<;>rfl
 cases hc:k7 z n with
 |some c=>rw [hc] at hf;exact .beyond c hc hf
 |none=>
  rw [hc] at hf;simp only at hf
  split at hf
  ·rename_i hp;have hh:=aHf hg hp;rw [A3 hh] at hf;exact .exact hc hp hh hf
  rename_i hp;have hp:fl z n=[]:=zzf zO
  split at hf
  ·rename_i hl;have he:=aso hl;have hh:=(ae5 h3).1;rw [he] at hh hf;exact .empty hc hp hh hf
  rename_i hl;have hh:=agz hl
  split at hf
  ·rename_i hs;exact .aJ2 hc hp hh hs hf
  ·rename_i hs;exact .none hc hp hh (by simpa using hs) hf
theorem V0 {z:ay} {n:Name} (h:ef z n≠0):iz z n=(xq 0 [] [],ef z n):=by unfold iz;rw [if_pos h]
end Go.Proofs.YtjagjbceegbaiaaGreat
end
section
namespace Go.Proofs.YtjagjbceegbaiaaGreat
open Go.Vm
def Gf (l:List ba):Prop:=gu n9 l<=16777216
instance (l:List ba):Decidable (Gf l):=inferInstanceAs (Decidable (_<=_))
theorem Gf.mem {l:List ba} (h:Gf l):∀ s ∈ l,db s:=fun s hs=>by have h1:n9 s<gu n9 l:=E8 hs;unfold Gf at h;unfold db;omega
theorem Gf.len {l:List ba} (h:Gf l):l.length<=16777216:=zzu (D3 n9 l) h
theorem bo.ak {z:ay} (h:bo z):Gf z.ak:=by unfold bo Mk at h;unfold Gf;omega
def xf (l:List ba):Prop:=l.length<=281474976710656/\∀ s ∈ l,db s
instance (l:List ba):Decidable (xf l):=inferInstanceAs (Decidable (_/\_))
theorem bo.mid {z:ay} (h:bo z):xf z.ak:=⟨zzu h.ak.len (by decide),h.ak.mem⟩
def vq (n:Name) (t:UInt16) (s:ba):Bool:=decide ((s.type.toNat:Int)=t.toNat) && (decide ((s.cls.toNat:Int)=1) && dt s.owner n)
def tn (l:List ba) (n:Name) (t:UInt16):Option ba:=l.find? (vq n t)
def Vy:ba:=mkS [] 0 0 0 []
theorem abp {l:List ba} {p:ba->Bool} {i:Nat} {c:ba} (h:l.drop i=c::l.drop (i+1)):(l.drop i).find? p=if p c=true then some c else (l.drop (i+1)).find? p:=by rw [h,List.find?_cons];split<;>simp_all
theorem av8 (l:List ba) (n:Name) (t:UInt16) (hl:xf l) (hn:aw n):wl PP [eg,Am] 0 (Tryz.f90.body.getD .skip) (c9 PP Tryz.f90.results.toList (fun r st=>(r2 ag bk).get true st.h r=some ((tn l n t).getD Vy,(tn l n t).isSome))) (cp 0 [(cg ag).val false l,aj.val false n,cj.val false t]) (bg []):=by
 have hlen:=hl.1;unfold Tryz.f90;simp only [bz];simp only [↓wR,zT,simprocAttr];refine dq [1,2,6,10,11,12] (fun (i:Nat)=>[zn n,.sc (.int .u16 t.toNat),.ptr 0 0,zs l,zi l.length,zi i]) (fun _=>[some (.row [.sc (.slice none 0 0),.sc (.int .u16 0),.sc (.int .u16 0),.sc (.int .u32 0),.sc (.slice none 0 0)] 0 2 63)]) (fun i=>i<=l.length/\tn l n t=(l.drop i).find? (vq n t)) (fun i=>l.length - i) 0 ⟨zzb _,rfl⟩ zS zS ?_;rintro i ⟨hi,hx⟩;simp only [↓wR,zT,simprocAttr];rw [bh];refine ⟨fun h=>?_,fun h=>?_⟩
 ·obtain ⟨c,hc,aF,hlt⟩:=du (zp h);rw [abp aF] at hx;have hcs:=hl.2 c (zm hc);simp only [↓wR,zT,simprocAttr,h,hc];rw [cf];refine ⟨fun ⟨h1,e1⟩=>?_,fun ⟨h1,e1⟩=>?_⟩
  ·simp only [↓wR,zT,simprocAttr,h1];rw [cf];refine ⟨fun ⟨h2,e2⟩=>?_,fun ⟨h2,e2⟩=>?_⟩
   ·simp only [↓wR,zT,simprocAttr,h2,j6,hcs.owner,hn];rw [cw];refine ⟨fun h3=>?_,fun h3=>?_⟩
    ·have hp:vq n t c=true:=by simp [vq,e1,e2,h3]
     rw [if_pos hp] at hx
     repeat (first|simp only [↓wR,zT,simprocAttr,h3,ry,hcs,hx]|simp (disch:=omega) only [zW])
    ·have hp:vq n t c=false:=by simp [vq,h3]
     rw [hp,if_neg (by decide)] at hx
     repeat (first|simp only [↓wR,zT,simprocAttr,h3]|simp (disch:=omega) only [zW])
     exact ⟨i+1,⟨hlt,hx⟩,zO,zF⟩
   ·have hp:vq n t c=false:=by simp [vq,e2]
    rw [hp,if_neg (by decide)] at hx
    repeat (first|simp only [↓wR,zT,simprocAttr,h2]|simp (disch:=omega) only [zW])
    exact ⟨i+1,⟨hlt,hx⟩,zO,zF⟩
  ·have hp:vq n t c=false:=by simp [vq,e1]
   rw [hp,if_neg (by decide)] at hx
   repeat (first|simp only [↓wR,zT,simprocAttr,h1]|simp (disch:=omega) only [zW])
   exact ⟨i+1,⟨hlt,hx⟩,zO,zF⟩
 ·rw [eu (zq h),List.find?_nil] at hx;simp only [↓wR,zT,simprocAttr,h,hx];rfl
noncomputable def Hl (x:List ba × Name × UInt16 × Unit):Option AV:=if xf x.1/\aw x.2.1 then some ((r2 ag bk).E true (((tn x.1 x.2.1 x.2.2.1).getD Vy,(tn x.1 x.2.1 x.2.2.1).isSome))) else none
theorem K2 (x:List ba × Name × UInt16 × Unit) (r:AV) (h:Hl x=some r):bj PP 90 ((aC (cg ag) (aC aj (aC cj a0))).E x) r:=by obtain ⟨hc,rfl⟩:=zI h;exact az (ar.cons (aq gy) (ar.cons (aq vy) (ar.nil PP))) Tryz.func90 zK zK zK zL (r2 ag bk) true (((tn x.1 x.2.1 x.2.2.1).getD Vy,(tn x.1 x.2.1 x.2.2.1).isSome)) (av8 x.1 x.2.1 x.2.2.1 hc.1 hc.2)
noncomputable abbrev Q7:zE:=(90,true,cx (aC (cg ag) (aC aj (aC cj a0))) Hl)
theorem aC7 (fr h):cj.gv fr h (.sc (.int .u16 1))=some 1:=zj fr h 1
theorem aC0 (fr h):cj.gv fr h (.sc (.int .u16 2))=some 2:=zj fr h 2
theorem aDq (fr h):cj.gv fr h (.sc (.int .u16 5))=some 5:=zj fr h 5
theorem aDl (fr h):cj.gv fr h (.sc (.int .u16 6))=some 6:=zj fr h 6
theorem axr (fr h):cj.gv fr h (.sc (.int .u16 28))=some 28:=zj fr h 28
theorem aGr:type_of% @aC7/\type_of% @aC0/\type_of% @aDq/\type_of% @aDl/\type_of% @axr:=⟨@aC7,@aC0,@aDq,@aDl,@axr⟩
theorem If (fr h k st et) (s:ba) (hro:A5 fr st 5 ag.kd et=true):kl ag fr h 0 1 (.row [zt s.owner,.sc (.int .u16 s.type.toNat),.sc (.int .u16 s.cls.toNat),.sc (.int .u32 s.i9.toNat),.vl true 4 (s.data.map (bc.val true))] k st et)=some [s]:=nv ag fr h true [s] k st et 1 rfl rfl hro
theorem ir.aii {be:Nat} {vs vs':List AV} {os os':List (Option bp)} (hp:be<=1000) (hV:AV.de.go (fun o=>idx (te be vs os) o 0) vs=vs') (hO:jw (bg os).h (fun o=>idx (te be vs os) o 0) (te be vs os)=os'):ir be vs os vs' os':=by subst hV hO;exact ir.canon hp
noncomputable def ti (z:ay) (n:Name) (t:UInt16):Cp × Int:=
 if (iz z n).2=0/\((t.toNat:Int)=0\/(t.toNat:Int)=41) then (xq 0 [] [],6) else iz z n
theorem av5 (z:ay) (n:Name) (t:UInt16) (hz:bo z) (hn:aw n):wl PP [af6] 0 (Tryz.f53.body.getD .skip) (c9 PP Tryz.f53.results.toList (fun r st=>(r2 qi (bb .i64)).get true st.h r=some (ti z n t))) (cp 0 [bf.val false z,aj.val false n,cj.val false t]) (bg []):=by
 unfold Tryz.f53;simp only [dy,bz];unfold ti;rcases hf:iz z n with ⟨⟨k,nd,cl⟩,e⟩
 simp only [↓wR,zT,simprocAttr,pn,hz,hn,hf];rw [cf];refine ⟨fun ⟨h1,e1⟩=>?_,fun ⟨h1,e1⟩=>?_⟩
 ·simp only [↓wR,zT,simprocAttr,h1];rw [cf];refine ⟨fun ⟨h2,e2⟩=>?_,fun ⟨h2,e2⟩=>?_⟩
  ·rw [if_pos ⟨e1,.inl e2⟩];simp only [↓wR,zT,simprocAttr,h2]
  ·simp only [↓wR,zT,simprocAttr,h2];rw [cf];refine ⟨fun ⟨h3,e3⟩=>?_,fun ⟨h3,e3⟩=>?_⟩
   ·rw [if_pos ⟨e1,.inr e3⟩];simp only [↓wR,zT,simprocAttr,h3]
   ·rw [if_neg (fun q=>q.2.elim e2 e3)];simp only [↓wR,zT,simprocAttr,h3];rfl
 ·rw [if_neg (fun q=>e1 q.1)];simp only [↓wR,zT,simprocAttr,h1];rfl
noncomputable def Hm (x:ay × Name × UInt16 × Unit):Option AV:=if bo x.1/\aw x.2.1 then some ((r2 qi (bb .i64)).E true (ti x.1 x.2.1 x.2.2.1)) else none
theorem Vl (x:ay × Name × UInt16 × Unit) (r:AV) (h:Hm x=some r):bj PP 53 ((aC bf (aC aj (aC cj a0))).E x) r:=by obtain ⟨hc,rfl⟩:=zI h;exact az (ar.cons (aq Nl) (ar.nil PP)) Tryz.func53 zK zK zK zL (r2 qi (bb .i64)) true (ti x.1 x.2.1 x.2.2.1) (av5 x.1 x.2.1 x.2.2.1 hc.1 hc.2)
noncomputable abbrev akq:zE:=(53,true,cx (aC bf (aC aj (aC cj a0))) Hm)
theorem Km {s:ba} (h:mu s=0):∃ d,s.data[0]? = some d/\ek s.type d=0:=by
 unfold mu at h
 split at h
 ·contradiction
 split at h
 ·cases h
 rename_i _ q
 split at h
 ·cases h
 cases hd:s.data with
 |nil=>exact (q (by rw [hd];rfl)).elim
 |cons d r=>
  rw [hd,r9] at h
  split at h
  ·contradiction
  ·rename_i q;exact ⟨d,rfl,zO⟩
theorem M4 {s:ba} (h:mu s=0):∀ d ∈ s.data,ek s.type d=0:=by
 have key:∀ (l pre:List cq),r9 s.type pre l=0->∀ d ∈ l,ek s.type d=0:=by
  intro l
  induction l with
  |nil=>intro pre _ d hd;cases hd
  |cons a l ih=>
   intro pre h d hd;rw [r9] at h
   split at h
   ·contradiction
   split at h
   ·cases h
   rcases zya.1 hd with rfl|hd
   ·omega
   ·exact ih _ h d hd
 unfold mu at h
 split at h
 ·contradiction
 split at h
 ·cases h
 split at h
 ·cases h
 exact key _ _ h
theorem G5 {t:UInt16} {d:cq} (h:ek t d=0):(d.names.length:Int)=(c8 t).names/\(d.nums.length:Int)=(c8 t).nums:=by
 have hf:tr (c8 t) t d=true:=by
  unfold ek at h
  split at h
  ·cases h
  split at h
  ·cases h
  ·rename_i q;simpa using q
 unfold tr at hf
 split at hf
 ·cases hf
 ·rename_i q;exact ⟨Decidable.byContradiction fun e=>q (.inl e),Decidable.byContradiction fun e=>q (.inr (.inl e))⟩
theorem Wb {s:ba} (h:mu s=0) (ht:(s.type.toNat:Int)=5):∃ d n,s.data[0]? = some d/\d.names[0]? = some n:=by
 obtain ⟨d,hd,he⟩:=Km h;have h1:=(G5 he).1;have h2:(c8 s.type).names=1:=by unfold c8;rw [ht];rfl
 rw [h2] at h1;have : 0<d.names.length:=zO;exact ⟨d,d.names[0],hd,zh this⟩
theorem ayb {s:ba} (h:mu s=0) (ht:(s.type.toNat:Int)=6):∃ d k,s.data[0]? = some d/\d.nums[4]? = some k:=by
 obtain ⟨d,hd,he⟩:=Km h;have h1:=(G5 he).2;have h2:(c8 s.type).nums=5:=by unfold c8;rw [ht];rfl
 rw [h2] at h1;have : 4<d.nums.length:=zO;exact ⟨d,d.nums[4],hd,zh this⟩
theorem ze {z:ay} (h:fp z=0):∀ s ∈ z.ak,mu s=0:=by
 have hf:=(Co h).first
 unfold qc at hf
 split at hf
 ·contradiction
 have key:∀ (l:List ba) (e:Int),ov l e=0->e=0/\∀ s ∈ l,mu s=0:=by
  intro l
  induction l with
  |nil=>intro e h;exact ⟨h,fun s hs=>by cases hs⟩
  |cons a l ih=>
   intro e h;rw [ov] at h;obtain ⟨h1,h2⟩:=ih _ h
   split at h1
   ·rename_i e0;exact ⟨e0,fun s hs=>(zya.1 hs).elim (fun q=>q ▸ h1) (h2 s)⟩
   ·rename_i e0;exact (e0 h1).elim
 exact (key _ _ hf).2
theorem G4 {l:List ba} {n:Name} {t:UInt16} {s:ba} (h:tn l n t=some s):s ∈ l/\(s.type.toNat:Int)=t.toNat/\(s.cls.toNat:Int)=1/\dt s.owner n=true:=by have h1:=List.mem_of_find?_eq_some h;have h2:=List.find?_some h;simp only [vq,zzh,decide_eq_true_eq] at h2;exact ⟨h1,h2.1,h2.2.1,h2.2.2⟩
def nb (n:Name) (s:ba):ba:=mkS n s.type s.cls s.i9 s.data
theorem acw {xs:List ba} {i:Nat} {c:ba} (n:Name) (k:Nat) (et:TypeId) (id:Nat) (hc:xs[i]? = some c) :
 I2 id (i * 5) 1 [aj.val true n] (.row (cellsOf ag true xs) 0 k et)=(so id (.row (cellsOf ag true (xs.take i++nb n c::xs.drop (i+1))) 0 k et)).bind fun _=>.pure (.sc undef):=by
 obtain ⟨hi,rfl⟩:=zg.1 hc;have h0:xs=xs.take i++xs[i]::xs.drop (i+1):=by rw [<- zzs hi,zzm]
 have hl:(cellsOf ag true xs).length=xs.length * 5:=A6 ag true xs;have h1:(cellsOf ag true xs).take (i * 5)=cellsOf ag true (xs.take i):=ak4 ag true xs i;have h2:(cellsOf ag true xs).drop (i * 5)=cellsOf ag true (xs.drop i):=Ih ag true xs i;have h3:(cellsOf ag true xs).drop (i * 5+1)=(ag.cells true xs[i]).drop 1++cellsOf ag true (xs.drop (i+1)):=by rw [<- List.drop_drop,h2,zzs hi,qu];rfl
 have hlt:i * 5+1<=xs.length * 5:=zO;have h4:(cellsOf ag true xs).take (i * 5)++[aj.val true n]++(cellsOf ag true xs).drop (i * 5+1)=cellsOf ag true (xs.take i++nb n xs[i]::xs.drop (i+1)):=by rw [h1,h3,Fo,qu,zzc];rfl
 have cH:[aj.val true n].all AV.one=true:=rfl;unfold I2;simp only [hl,Nat.ble_eq_true_of_le hlt,h4,cH];rfl
def S4 (t:UInt16) (l:List ba):Ja:=
 if (t.toNat:Int)=255/\0<l.length then pd 0 l []
 else match l.find? (fun s=>decide ((s.type.toNat:Int)=t.toNat)) with
  |some x=>pd 0 [x] []
  |none=>match l.find? (fun s=>decide ((s.type.toNat:Int)=5) && decide ((t.toNat:Int)≠255)) with
   |some x=>pd 1 [x] (((x.data[0]?).bind fun d=>d.names[0]?).getD [])
   |none=>pd 2 [] []
noncomputable def qm (z:ay) (n:Name) (t:UInt16) (s:Cp):Ja:=
 if s.kind=4 then pd 4 [(tn z.ak s.node 2).getD Vy] []
 else if s.kind=0 then pd 3 [] []
 else if s.kind=2 then pd 2 [] []
 else S4 t (if s.kind=3 then (fl z s.node).map (nb n) else fl z s.node)
theorem m11:Br 1 [1]=true:=id rfl
theorem m01:Br 0 [1]=false:=id rfl
set_option maxHeartbeats 4000000 in
theorem aEz (z:ay) (n:Name) (t:UInt16) (s:Cp) (hz:bo z) (hn:aw n) (he:fp z=0) (gY:aw s.node):wl PP [Q7,eg,Am,ve] 0 (Tryz.f54.body.getD .skip) (c9 PP Tryz.f54.results.toList (fun r st=>(r1 Av).get true st.h r=some (qm z n t s))) (cp 0 [bf.val false z,aj.val false n,cj.val false t,qi.val false s]) (bg []):=by
 have hl:=hz.len;have ok:ar PP [Q7,eg,Am,ve]:=ar.cons (aq K2) (ar.cons (aq gy) (ar.cons (aq vy) (ar.cons (aq px) (ar.nil PP))));unfold Tryz.f54;simp only [dy,bz,Kt];simp only [↓wR,zT,simprocAttr];unfold qm;rw [cf];refine ⟨fun ⟨h4,e4⟩=>?_,fun ⟨h4,e4⟩=>?_⟩
 ·rw [if_pos e4];simp only [↓wR,zT,simprocAttr,h4,aGr,Hl,hz.mid,gY,If]
 rw [if_neg e4];simp only [↓wR,zT,simprocAttr,h4];rw [cf];refine ⟨fun ⟨h0,e0⟩=>?_,fun ⟨h0,e0⟩=>?_⟩
 ·rw [if_pos e0];simp only [↓wR,zT,simprocAttr,h0]
 rw [if_neg e0];simp only [↓wR,zT,simprocAttr,h0];rw [cf];refine ⟨fun ⟨h2,e2⟩=>?_,fun ⟨h2,e2⟩=>?_⟩
 ·rw [if_pos e2];simp only [↓wR,zT,simprocAttr,h2]
 rw [if_neg e2];simp only [↓wR,zT,simprocAttr,h2];refine en (fun r st'=>r = .sl 3 0 (fl z s.node).length 5/\st'=bg [(zZ z),some (.row [.sc (.int .u8 s.kind),zn s.node,zn s.yj] 0 2 32),some (.row [.sc (.int .u8 0),.sc (.slice none 0 0),.sc (.slice none 0 0)] 0 2 54),some (.row (cellsOf ag true (fl z s.node)) 0 0 63)]) rfl ?_ ?_
 ·refine ct (T:=[Q7,eg,Am,ve]) ok mixed Tryz.func44 rfl zK zK zK zK ?_;unfold Tryz.f44;simp only [↓wR,zT,simprocAttr];refine fg [1,9,10,11,5] (fun (x:Nat × List ba)=>[zn s.node,zs z.ak,zi z.ak.length,zi x.1,.sl 3 0 x.2.length 5]) (fun x=>[(zZ z),some (.row [.sc (.int .u8 s.kind),zn s.node,zn s.yj] 0 2 32),some (.row [.sc (.int .u8 0),.sc (.slice none 0 0),.sc (.slice none 0 0)] 0 2 54),some (.row (cellsOf ag true (x.2)) 0 0 63)]) (fun x=>x.1<=z.ak.length/\x.2++(z.ak.drop x.1).filter (fun q=>dt q.owner s.node)=fl z s.node) (fun x=>z.ak.length - x.1) (0,[]) ⟨zzb _,rfl⟩ zX ?_;rintro ⟨i,x⟩ ⟨hi,hx⟩;simp only at hi hx;have bY:x.length<=z.ak.length:=by
   have h1:=n5 (l:=z.ak) (fun q=>dt q.owner s.node);have h2:=congrArg List.length hx;simp only [za,fl] at h2;omega
  simp only [↓wR,zT,simprocAttr];rw [bh];refine ⟨fun h=>?_,fun h=>?_⟩
  ·obtain ⟨c,hc,aF,hlt⟩:=du (zp h);rw [Py aF] at hx;have hcs:=hz.set c (zm hc);simp only [↓wR,zT,simprocAttr,h,hc,j6,hcs.owner,gY];rw [cw];refine ⟨fun h1=>?_,fun h1=>?_⟩
   ·rw [if_pos h1] at hx;have aD:(x.length * 5+5) * 64<=140737488355328:=zO
    repeat (first|simp only [↓wR,zT,simprocAttr,h1,ry,hcs,aD]|simp (disch:=omega) only [zW])
    refine ⟨(i+1,x++[c]),⟨hlt,by rw [<- hx];simp⟩,by simp;omega,zF,?_⟩;rw [kr]
   ·rw [if_neg (by rw [h1];decide)] at hx
    repeat (first|simp only [↓wR,zT,simprocAttr,h1]|simp (disch:=omega) only [zW])
    exact ⟨(i+1,x),⟨hlt,hx⟩,by simp;omega,zF,zF⟩
  ·rw [eu (zq h)] at hx;rw [List.filter_nil,zzn] at hx;subst hx;simp only [↓wR,zT,simprocAttr,h,jx,jo,ja]
 rintro _ _ ⟨rfl,rfl⟩;simp only [↓wR,zT,simprocAttr,gq];rw [cf];refine ⟨fun ⟨h3,e3⟩=>?_,fun ⟨h3,e3⟩=>?_⟩;rotate_left;rw [if_neg e3];simp only [↓wR,zT,simprocAttr,h3];obtain ⟨L,iG⟩:∃ L,L=fl z s.node:=⟨_,rfl⟩;have uM:∀ x ∈ L,∃ y ∈ z.ak,x.data=y.data/\x.type=y.type:=fun x hx=>⟨x,by rw [iG] at hx;exact (List.mem_filter.1 hx).1,rfl,rfl⟩
 have pK:L.length=(fl z s.node).length:=by rw [iG]
 rw [<- pK,<- iG];clear iG;rotate_left;rw [if_pos e3];simp only [↓wR,zT,simprocAttr,h3];refine en (fun r st'=>r = .sl 3 0 (fl z s.node).length 5/\st'=bg [(zZ z),some (.row [.sc (.int .u8 s.kind),zn s.node,zn s.yj] 0 2 32),some (.row [.sc (.int .u8 0),.sc (.slice none 0 0),.sc (.slice none 0 0)] 0 2 54),some (.row (cellsOf ag true ((fl z s.node).map (nb n))) 0 0 63)]) rfl ?_ ?_
 ·refine ct (T:=[Q7,eg,Am,ve]) ok mixed Tryz.func91 rfl zK zK zK zK ?_;unfold Tryz.f91;simp only [↓wR,zT,simprocAttr];refine dq [0,1,7,8] (fun (i:Nat)=>[.sl 3 0 (fl z s.node).length 5,zn n,zi ((fl z s.node).length),zi i]) (fun i=>[(zZ z),some (.row [.sc (.int .u8 s.kind),zn s.node,zn s.yj] 0 2 32),some (.row [.sc (.int .u8 0),.sc (.slice none 0 0),.sc (.slice none 0 0)] 0 2 54),some (.row (cellsOf ag true (((fl z s.node).take i).map (nb n)++(fl z s.node).drop i)) 0 0 63)]) (fun i=>i<=(fl z s.node).length) (fun i=>(fl z s.node).length - i) 0 (zzb _) zS zS ?_;intro i hi;have bM:(fl z s.node).length<=z.ak.length:=n5 _;simp only [↓wR,zT,simprocAttr];rw [bh];refine ⟨fun h=>?_,fun h=>?_⟩
  ·obtain ⟨c,hc,aF,hlt⟩:=du (zp h);have lV:(((fl z s.node).take i).map (nb n)++(fl z s.node).drop i)[i]? = some c:=by
    rw [zzd (by simp;omega),aF];simp [Nat.min_eq_left (show i<=(fl z s.node).length by omega)]
   have hst:=acw (xs:=((fl z s.node).take i).map (nb n)++(fl z s.node).drop i) n 0 63 3 lV;have iJ:(((fl z s.node).take i).map (nb n)++(fl z s.node).drop i).take i++nb n c::(((fl z s.node).take i).map (nb n)++(fl z s.node).drop i).drop (i+1)=((fl z s.node).take (i+1)).map (nb n)++(fl z s.node).drop (i+1):=by
    obtain ⟨_,rfl⟩:=zg.1 hc;have iW:(((fl z s.node).take i).map (nb n)).length=i:=by simp;omega
    rw [List.take_left' iW,List.drop_append,iW,zz5 hlt,zzw];rw [zzx zO,List.drop_drop,Nat.add_sub_cancel_left];simp
   rw [iJ] at hst
   repeat (first|simp only [↓wR,zT,simprocAttr,h,oe,hn,↓hst]|simp (disch:=omega) only [zW])
   exact ⟨i+1,hlt,zO,zF⟩
  ·have hin:i=(fl z s.node).length:=zO;subst hin;simp only [↓wR,zT,simprocAttr,h,jx,jo,ja,zz7,List.drop_length,zzn]
 rintro _ _ ⟨rfl,rfl⟩;simp only [↓wR,zT,simprocAttr,gq];obtain ⟨L,iG⟩:∃ L,L=(fl z s.node).map (nb n):=⟨_,rfl⟩;have uM:∀ x ∈ L,∃ y ∈ z.ak,x.data=y.data/\x.type=y.type:=fun x hx=>by rw [iG] at hx;obtain ⟨y,hy,rfl⟩:=zyj.1 hx;exact ⟨y,(List.mem_filter.1 hy).1,rfl,rfl⟩
 have pK:L.length=(fl z s.node).length:=by rw [iG,zzo]
 rw [<- pK,<- iG];clear iG
 all_goals
  unfold S4;have uN:L.length<=z.ak.length:=by rw [pK];exact n5 _
  by_cases kO:(t.toNat:Int)=255/\0<L.length
  ·rw [if_pos kO];have e5:((t.toNat:Int) == 255)=true:=by rw [kO.1];rfl
   have e6:decide ((L.length:Int) > 0)=true:=zp zO;simp only [↓wR,zT,simprocAttr,e5,e6]
  rw [if_neg kO];by_cases h5:(t.toNat:Int)=255;rotate_left;have e5:((t.toNat:Int) == 255)=false:=by simpa using h5
  simp only [↓wR,zT,simprocAttr,e5];rotate_left;have e5:((t.toNat:Int) == 255)=true:=by rw [h5];rfl
  have e6:decide ((L.length:Int) > 0)=false:=zq zO;simp only [↓wR,zT,simprocAttr,e5,e6]
  all_goals
   refine fg [2,8,11,56,57,58] (fun (i:Nat)=>[.sc (.int .u16 t.toNat),.ptr 0 0,.vl true 5 (L.map (ag.val true)),.vl true 5 (L.map (ag.val true)),zi L.length,zi i]) (fun _=>[some (.row [.sc (.int .u8 0),.sc (.slice none 0 0),.sc (.slice none 0 0)] 0 2 54)]) (fun i=>i<=L.length/\L.find? (fun s=>decide ((s.type.toNat:Int)=t.toNat))=(L.drop i).find? (fun s=>decide ((s.type.toNat:Int)=t.toNat))) (fun i=>L.length - i) 0 ⟨zzb _,rfl⟩ (by simp only [↓wR,zT,simprocAttr];refine .trans (ir.lax [1] (zB rfl) (.cons (.same _) (.cons (.same _) (.cons (.data (cg ag) true L _ ?_) (.cons (.data (cg ag) true L _ ?_) (.cons (.same _) (.cons (.same _) .nil)))))) (.same (.same .nil))) (ir.aii (by decide) ?_ ?_)<;>simp only [↓wR,zT,simprocAttr,xg,Bj,m11,m01,te]) ?_;rintro i ⟨hi,hx⟩;simp only [↓wR,zT,simprocAttr];rw [bh];refine ⟨fun h=>?_,fun h=>?_⟩
   ·obtain ⟨c,hc,aF,hlt⟩:=du (zp h);by_cases h5:(t.toNat:Int)=255
    ·omega
    rw [abp aF] at hx;simp only [↓wR,zT,simprocAttr,h,hc];rw [cf];refine ⟨fun ⟨h1,e1⟩=>?_,fun ⟨h1,e1⟩=>?_⟩
    ·rw [if_pos (zp e1)] at hx;simp only [↓wR,zT,simprocAttr,h1,hx,If]
    ·rw [zq e1,if_neg (by decide)] at hx
     repeat (first|simp only [↓wR,zT,simprocAttr,h1]|simp (disch:=omega) only [zW])
     exact ⟨i+1,⟨hlt,hx⟩,zO,zF⟩
   rw [eu (zq h),List.find?_nil] at hx;rw [hx];simp only [↓wR,zT,simprocAttr,h];clear h hx hi;refine dq [2,8,70,71,72] (fun (i:Nat)=>[.sc (.int .u16 t.toNat),.ptr 0 0,.vl true 5 (L.map (ag.val true)),zi L.length,zi i]) (fun _=>[some (.row [.sc (.int .u8 0),.sc (.slice none 0 0),.sc (.slice none 0 0)] 0 2 54)]) (fun i=>i<=L.length/\L.find? (fun s=>decide ((s.type.toNat:Int)=5) && decide ((t.toNat:Int)≠255))=(L.drop i).find? (fun s=>decide ((s.type.toNat:Int)=5) && decide ((t.toNat:Int)≠255))) (fun i=>L.length - i) 0 ⟨zzb _,rfl⟩ zS zS ?_;rintro i ⟨hi,hx⟩;simp only [↓wR,zT,simprocAttr];rw [bh];refine ⟨fun h=>?_,fun h=>?_⟩
   ·obtain ⟨c,hc,aF,hlt⟩:=du (zp h);by_cases h5:(t.toNat:Int)=255
    ·omega
    have hne:((t.toNat:Int) != 255)=true:=by simpa using h5
    rw [abp aF] at hx;simp only [↓wR,zT,simprocAttr,h,hc];rw [cf];refine ⟨fun ⟨h1,e1⟩=>?_,fun ⟨h1,e1⟩=>?_⟩
    ·have hp:(decide ((c.type.toNat:Int)=5) && decide ((t.toNat:Int)≠255))=true:=by rw [zp e1,zp h5];rfl
     rw [if_pos hp] at hx;obtain ⟨y,hy,eO,iJ⟩:=uM c (zm hc);obtain ⟨d,m,hd,hm⟩:=Wb (ze he y hy) (by rw [<- iJ];exact e1);rw [<- eO] at hd;have dA:aw m:=by have:=(hz.set y hy).data.mem d (by rw [<- eO];exact zm hd);exact this.name m (zm hm)
     simp only [↓wR,zT,simprocAttr,h1,hne];refine ⟨zK,.inl ?_⟩;simp only [↓wR,zT,simprocAttr,hd,hm,hx,oe,dA,If];exact zK
    ·have hp:(decide ((c.type.toNat:Int)=5) && decide ((t.toNat:Int)≠255))=false:=by rw [zq e1];rfl
     rw [hp,if_neg (by decide)] at hx
     repeat (first|simp only [↓wR,zT,simprocAttr,h1]|simp (disch:=omega) only [zW])
     exact ⟨i+1,⟨hlt,hx⟩,zO,zF⟩
   rw [eu (zq h),List.find?_nil] at hx;rw [hx];simp only [↓wR,zT,simprocAttr,h]
noncomputable def z8 (x:ay × Name × UInt16 × Cp × Unit):Option AV:=if (bo x.1/\aw x.2.1)/\(fp x.1=0/\aw x.2.2.2.1.node) then some ((r1 Av).E true (qm x.1 x.2.1 x.2.2.1 x.2.2.2.1)) else none
theorem Yl (x:ay × Name × UInt16 × Cp × Unit) (r:AV) (h:z8 x=some r):bj PP 54 ((aC bf (aC aj (aC cj (aC qi a0)))).E x) r:=by obtain ⟨hc,rfl⟩:=zI h;exact az (ar.cons (aq K2) (ar.cons (aq gy) (ar.cons (aq vy) (ar.cons (aq px) (ar.nil PP))))) Tryz.func54 zK zK zK zL (r1 Av) true (qm x.1 x.2.1 x.2.2.1 x.2.2.2.1) (aEz x.1 x.2.1 x.2.2.1 x.2.2.2.1 hc.1.1 hc.1.2 hc.2.1 hc.2.2)
noncomputable abbrev ar1:zE:=(54,true,cx (aC bf (aC aj (aC cj (aC qi a0)))) z8)
end Go.Proofs.YtjagjbceegbaiaaGreat
end
