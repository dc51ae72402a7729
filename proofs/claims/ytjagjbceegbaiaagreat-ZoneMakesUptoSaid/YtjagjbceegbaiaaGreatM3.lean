/- A piece of the proof of the law ZoneMakes: lemmas. No condition. -/
import Derived.Test.YtjagjbceegbaiaaGreatProg
import Derived.Test.YtjagjbceegbaiaaGreatRows
import Derived.Test.YtjagjbceegbaiaaGreatM2
set_option linter.unusedSimpArgs false
set_option linter.unusedVariables false
set_option linter.unusedSectionVars false
set_option maxRecDepth 2000000
namespace Go.Vm
variable [TK]
noncomputable section
section
variable (P : Program) (ρ : Operand -> AV) (d : Option Tmp) (ty : TypeId) (pos : String) (af : Array Edge) (gd : Option (Nat × Bool)) (t u : TypeId) (x y : Operand)
theorem Sh (op:BinOp) (k k':IntKind) (a b:Int) (hx : ρ x = .sc (.int k a)) (hy : ρ y = .sc (.int k' b)) :
 su P ρ ⟨d,.binOp op t x y u,ty,pos,af,gd⟩ op t (.sc (.int k a)) (.sc (.int k' b))=M.of ((ev P (binOp op t (.int k a) (.int k' b))).map .sc):=by
 have h1:∀ s:Sem Value,ev P (do pure (Next.value (<- s)))=(ev P s).map Next.value:=by
  intro s
  induction s with
  |pure b=>rfl
  |program k ih=>exact ih P
  |choose q k ih=>
   simp only [bind,Sem.bind,ev]
   split
   ·exact ih 0
   ·rfl
  |mark m k ih=>exact ih
  |_=>rfl
 have h2:execOp (fun z=>((ρ z).jr).getD undef) ⟨d,.binOp op t x y u,ty,pos,af,gd⟩=(do pure (Next.value (<- (do eqGuard op t x y (.int k a) (.int k' b);binOp op t (.int k a) (.int k' b))))):=by simp only [execOp,hx,hy,AV.jr,Option.getD_some]
 have h3:ev P (do eqGuard op t x y (.int k a) (.int k' b);binOp op t (.int k a) (.int k' b))=ev P (binOp op t (.int k a) (.int k' b)):=by cases op<;>rfl
 unfold su vu;simp only [AV.jr,Option.isSome_some,Bool.and_self,cond_true];rw [h2,h1,h3];cases ev P (binOp op t (.int k a) (.int k' b))<;>rfl
theorem axg (k k':IntKind) (a b:Int) (h : 0<=b):ev P (binOp .shl t (.int k a) (.int k' b))=some (.int k (k.wrap (a * 2 ^ (min b.toNat k.bits)))):=by have:¬ b<0:=zO;simp [binOp,Op.shift,this,Gq]
theorem axr (k k':IntKind) (a b:Int) (h : 0<=b):ev P (binOp .shr t (.int k a) (.int k' b))=some (.int k (a.fdiv (2 ^ (min b.toNat k.bits)))):=by have:¬ b<0:=zO;simp [binOp,Op.shift,this,Gq]
theorem Ka {d:TypeDesc} (h:P.underlying t=some d):ev P (underlying t)=some d:=by rw [underlying];show ev P (match P.underlying t with|some d=>pure d|none=>_)=_;rw [h];rfl
theorem Tb (op:BinOp) (a b:ByteArray) (hx : ρ x = .sc (.string a)) (hy : ρ y = .sc (.string b)) :
 su P ρ ⟨d,.binOp op t x y u,ty,pos,af,gd⟩ op t (.sc (.string a)) (.sc (.string b))=M.of ((ev P (binOp op t (.string a) (.string b))).map .sc):=by
 have h1:∀ s:Sem Value,ev P (do pure (Next.value (<- s)))=(ev P s).map Next.value:=by
  intro s
  induction s with
  |pure b=>rfl
  |program k ih=>exact ih P
  |choose q k ih=>
   simp only [bind,Sem.bind,ev]
   split
   ·exact ih 0
   ·rfl
  |mark m k ih=>exact ih
  |_=>rfl
 have h2:execOp (fun z=>((ρ z).jr).getD undef) ⟨d,.binOp op t x y u,ty,pos,af,gd⟩=(do pure (Next.value (<- (do eqGuard op t x y (.string a) (.string b);binOp op t (.string a) (.string b))))):=by simp only [execOp,hx,hy,AV.jr,Option.getD_some]
 have h3:ev P (do eqGuard op t x y (.string a) (.string b);binOp op t (.string a) (.string b))=ev P (binOp op t (.string a) (.string b)):=by cases op<;>rfl
 unfold su vu;simp only [AV.jr,Option.isSome_some,Bool.and_self,cond_true];rw [h2,h1,h3];cases ev P (binOp op t (.string a) (.string b))<;>rfl
theorem str_eq (a b:ByteArray):(a.toList == b.toList)=decide (a=b):=by
 rw [ByteArray.toList_eq,ByteArray.toList_eq,zyc];simp only [beq_iff_eq,decide_eq_true_eq];constructor
 ·intro h;cases a;cases b
  congr 1
  exact Array.ext' h
 ·intro h;rw [h]
theorem Z2 (a b:ByteArray):ev P (binOp .eql t (.string a) (.string b))=some (.bool (decide (a=b))):=by rw [<- str_eq];rfl
theorem aa5 (a b:ByteArray):ev P (binOp .neq t (.string a) (.string b))=some (.bool (!decide (a=b))):=by rw [<- str_eq];rfl
end
def Uc (u:Option TypeDesc):Bool:=match u with|some (.slice _)=>true|_=>false
theorem aq0 (e):Uc (some (.slice e))=true:=id rfl
theorem ark {u} (h:Uc u=true):∃ e,u=some (.slice e):=by
 unfold Uc at h;split at h
 ·exact ⟨_,rfl⟩
 ·cases h
theorem ar7 {P:Program} {t op x y} (h:Uc (P.underlying t)=true):Im P t op x y=Uh op x y:=by obtain ⟨e,he⟩:=ark h;unfold Im;rw [he]
theorem Y6 (P:Program) (ρ o op t l sz es b):su P ρ o op t (.vl l sz es) b=Im P t op (.vl l sz es) b:=id rfl
theorem aqf (b):se .eql b=M.pure (.sc (.bool b)):=id rfl
theorem aqw (b):se .neq b=M.pure (.sc (.bool (!b))):=id rfl
theorem Nb (P:Program) (ρ:Operand->AV) (d ty pos af gd) (t u:TypeId) (x y:Operand) (op:BinOp) (a b:Option Addr) (n c m k:Nat) (hx : ρ x = .sc (.slice a n c)) (hy : ρ y = .sc (.slice b m k)) :
 su P ρ ⟨d,.binOp op t x y u,ty,pos,af,gd⟩ op t (.sc (.slice a n c)) (.sc (.slice b m k))=M.of ((ev P (binOp op t (.slice a n c) (.slice b m k))).map .sc):=by
 have h1:∀ s:Sem Value,ev P (do pure (Next.value (<- s)))=(ev P s).map Next.value:=by
  intro s
  induction s with
  |pure b=>rfl
  |program k ih=>exact ih P
  |choose q k ih=>
   simp only [bind,Sem.bind,ev]
   split
   ·exact ih 0
   ·rfl
  |mark m k ih=>exact ih
  |_=>rfl
 have h2:execOp (fun z=>((ρ z).jr).getD undef) ⟨d,.binOp op t x y u,ty,pos,af,gd⟩=(do pure (Next.value (<- (do eqGuard op t x y (.slice a n c) (.slice b m k);binOp op t (.slice a n c) (.slice b m k))))):=by simp only [execOp,hx,hy,AV.jr,Option.getD_some]
 have h3:ev P (do eqGuard op t x y (.slice a n c) (.slice b m k);binOp op t (.slice a n c) (.slice b m k))=ev P (binOp op t (.slice a n c) (.slice b m k)):=by cases op<;>rfl
 unfold su vu;simp only [AV.jr,Option.isSome_some,Bool.and_self,cond_true];rw [h2,h1,h3];cases ev P (binOp op t (.slice a n c) (.slice b m k))<;>rfl
theorem ag8 {P:Program} {t:TypeId} {a:Option Addr} {n c m k:Nat} (d:Nat) (h:Uc (P.underlying t)=true):ev P (Op.equalIn (d+1) t (.slice a n c) (.slice none m k))=some a.isNone:=by obtain ⟨e,he⟩:=ark h;simp only [Op.equalIn];rw [qi,Ka P t he];cases a<;>rfl
theorem Q5 {P:Program} {t:TypeId} {a:Option Addr} {n c m k:Nat} (h:Uc (P.underlying t)=true):ev P (binOp .eql t (.slice a n c) (.slice none m k))=some (.bool a.isNone):=by show ev P (do pure (Value.bool (<- Op.equalIn (9999+1) t (.slice a n c) (.slice none m k))))=_;rw [qi,ag8 9999 h];rfl
end
end Go.Vm
section
namespace Go.Vm
theorem wR:type_of% @ar6/\type_of% @adr/\type_of% @ay7/\type_of% @arx/\type_of% @ake/\type_of% @ar2/\type_of% @arn/\type_of% @azi/\type_of% @aw0/\type_of% @az5/\type_of% @azg/\type_of% @awt/\type_of% @awm/\type_of% @axp/\type_of% @aqu/\type_of% @aqn/\type_of% @aq1/\type_of% @azy/\type_of% @awg/\type_of% @aev/\type_of% @am9/\type_of% @adz/\type_of% @aaj/\type_of% @Zj/\type_of% @alo/\type_of% @alu/\type_of% @amv/\type_of% @apz/\type_of% @ah2/\type_of% @anf/\type_of% @af3/\type_of% @ahp/\type_of% @afc/\type_of% @agc/\type_of% @ajj/\type_of% @afv/\type_of% @adj/\type_of% @axb/\type_of% @Mu/\type_of% @Nw/\type_of% @aj8/\type_of% @ah9/\type_of% @aad/\type_of% @aqx/\type_of% @aj1/\type_of% @ael/\type_of% @al8/\type_of% @ar1/\type_of% @aw9/\type_of% @azx/\type_of% @av8/\type_of% @avz/\type_of% @ax1/\type_of% @ax7/\type_of% @aq5/\type_of% @aqe/\type_of% @art/\type_of% @aq4/\type_of% @arb/\type_of% @amq/\type_of% @afm/\type_of% @aa1/\type_of% @Yh/\type_of% @alh/\type_of% @aqj/\type_of% @aqz/\type_of% @Xr/\type_of% @az4/\type_of% @ayq/\type_of% @ajl/\type_of% @al0/\type_of% @aq9/\type_of% @Vb/\type_of% @Sx:=
 ⟨@ar6,@adr,@ay7,@arx,@ake,@ar2,@arn,@azi,@aw0,@az5,@azg,@awt,@awm,@axp,@aqu,@aqn,@aq1,@azy,@awg,@aev,@am9,@adz,@aaj,@Zj,@alo,@alu,@amv,@apz,@ah2,@anf,@af3,@ahp,@afc,@agc,@ajj,@afv,@adj,@axb,@Mu,@Nw,@aj8,@ah9,@aad,@aqx,@aj1,@ael,@al8,@ar1,@aw9,@azx,@av8,@avz,@ax1,@ax7,@aq5,@aqe,@art,@aq4,@arb,@amq,@afm,@aa1,@Yh,@alh,@aqj,@aqz,@Xr,@az4,@ayq,@ajl,@al0,@aq9,@Vb,@Sx⟩
theorem R0:type_of% @ak6/\type_of% @av9/\type_of% @nc0/\type_of% @nc1/\type_of% @Int.sub_zero/\type_of% @Int.sub_self/\type_of% @Int.add_zero/\type_of% @Int.zero_add/\type_of% @Yy/\type_of% @axt/\type_of% @aff/\type_of% @amt/\type_of% @aru/\type_of% @Wq/\type_of% @List.length_replicate.{0}/\type_of% @adk/\type_of% @ae7/\type_of% @ax8/\type_of% @Lt/\type_of% @Vf/\type_of% @Q8/\type_of% @aky/\type_of% @aih/\type_of% @aaa/\type_of% @Qb/\type_of% @amr/\type_of% @ar9/\type_of% @aw8/\type_of% @W5/\type_of% @Lx/\type_of% @Xh/\type_of% @ayx/\type_of% @ars/\type_of% @Vv/\type_of% @abg/\type_of% @Vz/\type_of% @Q6/\type_of% @ad5/\type_of% @Zn/\type_of% @Xv/\type_of% @List.length_append.{0}/\type_of% @rtT/\type_of% @rtF/\type_of% @Go.Vm.F4.eq_1/\type_of% @Go.Vm.bounds.eq_1/\type_of% @Go.Vm.Ic.eq_1/\type_of% @Go.Vm.Ic.eq_2/\type_of% @Go.Vm.M6.eq_def:=
 ⟨@ak6,@av9,@nc0,@nc1,@Int.sub_zero,@Int.sub_self,@Int.add_zero,@Int.zero_add,@Yy,@axt,@aff,@amt,@aru,@Wq,@List.length_replicate.{0},@adk,@ae7,@ax8,@Lt,@Vf,@Q8,@aky,@aih,@aaa,@Qb,@amr,@ar9,@aw8,@W5,@Lx,@Xh,@ayx,@ars,@Vv,@abg,@Vz,@Q6,@ad5,@Zn,@Xv,@List.length_append.{0},@rtT,@rtF,@Go.Vm.F4.eq_1,@Go.Vm.bounds.eq_1,@Go.Vm.Ic.eq_1,@Go.Vm.Ic.eq_2,@Go.Vm.M6.eq_def⟩
theorem R1:type_of% @Go.Vm.Tw.eq_1/\type_of% @Go.Vm.Fb.eq_1/\type_of% @Go.Vm.Jb.eq_def/\type_of% @Go.Vm.qx.eq_1/\type_of% @Go.Vm.Fy.eq_def/\type_of% @Nf/\type_of% @Qd/\type_of% @Mg/\type_of% @B8/\type_of% @Yq/\type_of% @Nat.div_one/\type_of% @Ye/\type_of% @Z6/\type_of% @ay9/\type_of% @Wi/\type_of% @Yj/\type_of% @Va/\type_of% @aD9/\type_of% @aq8/\type_of% @arj/\type_of% @aEj/\type_of% @aD4/\type_of% @aqg/\type_of% @af5/\type_of% @ako/\type_of% @ads/\type_of% @Mm/\type_of% @O7/\type_of% @Mn/\type_of% @Zh/\type_of% @ad7/\type_of% @Yc/\type_of% @aan/\type_of% @adh/\type_of% @Yg:=
 ⟨@Go.Vm.Tw.eq_1,@Go.Vm.Fb.eq_1,@Go.Vm.Jb.eq_def,@Go.Vm.qx.eq_1,@Go.Vm.Fy.eq_def,@Nf,@Qd,@Mg,@B8,@Yq,@Nat.div_one,@Ye,@Z6,@ay9,@Wi,@Yj,@Va,@aD9,@aq8,@arj,@aEj,@aD4,@aqg,@af5,@ako,@ads,@Mm,@O7,@Mn,@Zh,@ad7,@Yc,@aan,@adh,@Yg⟩
theorem R2:type_of% @aq0/\type_of% @ar7/\type_of% @Y6/\type_of% @aqf/\type_of% @aqw/\type_of% @Nb/\type_of% @Q5/\type_of% @Option.isNone_none.{0}/\type_of% @Option.isNone_some.{0}/\type_of% @ap1/\type_of% @Wa/\type_of% @P7/\type_of% @Si/\type_of% @V0/\type_of% @Tk/\type_of% @afp/\type_of% @akm/\type_of% @agd/\type_of% @Rg/\type_of% @Pw/\type_of% @Qx/\type_of% @P4/\type_of% @N7/\type_of% @aly/\type_of% @Jp/\type_of% @List.isEmpty_cons.{0}/\type_of% @List.isEmpty_nil.{0}/\type_of% @List.flatMap_nil.{0,0}/\type_of% @Vy/\type_of% @Wl/\type_of% @U5/\type_of% @Vi/\type_of% @Z1/\type_of% @X6/\type_of% @and_true/\type_of% @true_and/\type_of% @Wo/\type_of% @Vt/\type_of% @ad9/\type_of% @aqd/\type_of% @av0/\type_of% @and_self:=
 ⟨@aq0,@ar7,@Y6,@aqf,@aqw,@Nb,@Q5,@Option.isNone_none.{0},@Option.isNone_some.{0},@ap1,@Wa,@P7,@Si,@V0,@Tk,@afp,@akm,@agd,@Rg,@Pw,@Qx,@P4,@N7,@aly,@Jp,@List.isEmpty_cons.{0},@List.isEmpty_nil.{0},@List.flatMap_nil.{0,0},@Vy,@Wl,@U5,@Vi,@Z1,@X6,@and_true,@true_and,@Wo,@Vt,@ad9,@aqd,@av0,@and_self⟩
theorem R3:type_of% @List.size_toArray.{0}/\type_of% @aex/\type_of% @af9/\type_of% @al1/\type_of% @alk/\type_of% @ae2/\type_of% @ai6/\type_of% @Zb/\type_of% @amm/\type_of% @Pv/\type_of% @adx/\type_of% @aif/\type_of% @aey/\type_of% @Qm/\type_of% @Rb/\type_of% @af6/\type_of% @aew/\type_of% @M8/\type_of% @Wj/\type_of% @adt/\type_of% @af1/\type_of% @ap7/\type_of% @aa8/\type_of% @aip/\type_of% @aer/\type_of% @Zf/\type_of% @ali/\type_of% @afn/\type_of% @adf/\type_of% @Xz/\type_of% @Zd/\type_of% @Vh/\type_of% @aDy/\type_of% @ahm/\type_of% @adq/\type_of% @Vr/\type_of% @Tb/\type_of% @Z2/\type_of% @aa5/\type_of% @Ce/\type_of% @Go.Vm.cellsIn.eq_1/\type_of% @Go.Vm.cellsIn.eq_2/\type_of% @Go.Vm.cellsIn.eq_5/\type_of% @Go.Vm.cellsIn.eq_6/\type_of% @Go.Vm.J4.eq_1:=
 ⟨@List.size_toArray.{0},@aex,@af9,@al1,@alk,@ae2,@ai6,@Zb,@amm,@Pv,@adx,@aif,@aey,@Qm,@Rb,@af6,@aew,@M8,@Wj,@adt,@af1,@ap7,@aa8,@aip,@aer,@Zf,@ali,@afn,@adf,@Xz,@Zd,@Vh,@aDy,@ahm,@adq,@Vr,@Tb,@Z2,@aa5,@Ce,@Go.Vm.cellsIn.eq_1,@Go.Vm.cellsIn.eq_2,@Go.Vm.cellsIn.eq_5,@Go.Vm.cellsIn.eq_6,@Go.Vm.J4.eq_1⟩
theorem R4:type_of% @Go.Vm.Pj.eq_1/\type_of% @Ki/\type_of% @S1/\type_of% @Rc/\type_of% @Qy/\type_of% @Hx/\type_of% @Kw/\type_of% @K2/\type_of% @Jd/\type_of% @Re/\type_of% @Na/\type_of% @Rq/\type_of% @Ie/\type_of% @P8/\type_of% @S8/\type_of% @Qj/\type_of% @Ib/\type_of% @Qf/\type_of% @S2/\type_of% @Wh/\type_of% @Ss/\type_of% @aef/\type_of% @zk/\type_of% @N9/\type_of% @V2/\type_of% @ajw/\type_of% @Ah/\type_of% @aqp/\type_of% @azj/\type_of% @ax9/\type_of% @abc/\type_of% @Zu/\type_of% @Kz/\type_of% @ae6/\type_of% @Zk:=
 ⟨@Go.Vm.Pj.eq_1,@Ki,@S1,@Rc,@Qy,@Hx,@Kw,@K2,@Jd,@Re,@Na,@Rq,@Ie,@P8,@S8,@Qj,@Ib,@Qf,@S2,@Wh,@Ss,@aef,@zk,@N9,@V2,@ajw,@Ah,@aqp,@azj,@ax9,@abc,@Zu,@Kz,@ae6,@Zk⟩
theorem R5:type_of% @Go.Vm.yz.eq_1/\type_of% @List.flatten_cons.{0}/\type_of% @List.flatten_nil.{0}/\type_of% @List.replicate_succ.{0}/\type_of% @List.replicate_zero.{0}/\type_of% @afa/\type_of% @aec/\type_of% @ayt/\type_of% @ara/\type_of% @aEq/\type_of% @aEh/\type_of% @aEb/\type_of% @Ot/\type_of% @Jv/\type_of% @Od/\type_of% @Ds/\type_of% @Vs/\type_of% @Oo/\type_of% @Mh/\type_of% @P9/\type_of% @Ei/\type_of% @F3/\type_of% @V9/\type_of% @af7/\type_of% @Mk/\type_of% @Cm/\type_of% @Ll/\type_of% @Qn/\type_of% @N2/\type_of% @H0/\type_of% @Wr/\type_of% @V4/\type_of% @Rr/\type_of% @Ld/\type_of% @Qw/\type_of% @Jo/\type_of% @Yz/\type_of% @aae/\type_of% @Sh/\type_of% @axg/\type_of% @axr/\type_of% @Go.IntKind.bits.eq_6/\type_of% @Go.IntKind.bits.eq_8/\type_of% @Nat.min_def/\type_of% @aEr/\type_of% @aEn:=
 ⟨@Go.Vm.yz.eq_1,@List.flatten_cons.{0},@List.flatten_nil.{0},@List.replicate_succ.{0},@List.replicate_zero.{0},@afa,@aec,@ayt,@ara,@aEq,@aEh,@aEb,@Ot,@Jv,@Od,@Ds,@Vs,@Oo,@Mh,@P9,@Ei,@F3,@V9,@af7,@Mk,@Cm,@Ll,@Qn,@N2,@H0,@Wr,@V4,@Rr,@Ld,@Qw,@Jo,@Yz,@aae,@Sh,@axg,@axr,@Go.IntKind.bits.eq_6,@Go.IntKind.bits.eq_8,@Nat.min_def,@aEr,@aEn⟩
theorem R6:type_of% @aD8/\type_of% @aDv/\type_of% @aDr/\type_of% @aDs/\type_of% @aEs/\type_of% @aDz/\type_of% @aEe/\type_of% @aEf/\type_of% @ajr/\type_of% @am7/\type_of% @aAv/\type_of% @aIe/\type_of% @asr/\type_of% @Go.Vm.Pg.eq_1/\type_of% @Go.Vm.Gn.eq_1/\type_of% @Go.Vm.Bt.eq_def/\type_of% @Go.Vm.lf.eq_1/\type_of% @Go.Vm.Jj.eq_1/\type_of% @Go.Vm.Dh.eq_1/\type_of% @Go.Vm.uo.eq_1/\type_of% @Go.Vm.uo.eq_2/\type_of% @Go.Vm.AV.known.eq_2/\type_of% @Go.Value.oneCell'.eq_3/\type_of% @Go.Vm.AV.cells.eq_1/\type_of% @Go.Vm.AV.cells.eq_2/\type_of% @Go.Vm.AV.cells.eq_3/\type_of% @Go.Value.cells.eq_1/\type_of% @Go.Value.cells.eq_2/\type_of% @Go.Vm.AV.one.eq_4/\type_of% @Go.Vm.AV.one.eq_5/\type_of% @Go.Vm.xf.eq_1/\type_of% @Go.Vm.wx.eq_1/\type_of% @Go.Vm.wx.eq_2/\type_of% @Go.Vm.jk.eq_1/\type_of% @Go.Vm.so.eq_1/\type_of% @Go.Vm.Ar.eq_2/\type_of% @Go.Vm.Ar.eq_6/\type_of% @Go.Vm.nb.eq_1:=
 ⟨@aD8,@aDv,@aDr,@aDs,@aEs,@aDz,@aEe,@aEf,@ajr,@am7,@aAv,@aIe,@asr,@Go.Vm.Pg.eq_1,@Go.Vm.Gn.eq_1,@Go.Vm.Bt.eq_def,@Go.Vm.lf.eq_1,@Go.Vm.Jj.eq_1,@Go.Vm.Dh.eq_1,@Go.Vm.uo.eq_1,@Go.Vm.uo.eq_2,@Go.Vm.AV.known.eq_2,@Go.Value.oneCell'.eq_3,@Go.Vm.AV.cells.eq_1,@Go.Vm.AV.cells.eq_2,@Go.Vm.AV.cells.eq_3,@Go.Value.cells.eq_1,@Go.Value.cells.eq_2,@Go.Vm.AV.one.eq_4,@Go.Vm.AV.one.eq_5,@Go.Vm.xf.eq_1,@Go.Vm.wx.eq_1,@Go.Vm.wx.eq_2,@Go.Vm.jk.eq_1,@Go.Vm.so.eq_1,@Go.Vm.Ar.eq_2,@Go.Vm.Ar.eq_6,@Go.Vm.nb.eq_1⟩
theorem R7:type_of% @Go.Vm.nb.eq_3/\type_of% @Go.Vm.nb.eq_4/\type_of% @Go.Vm.On.eq_1/\type_of% @Go.Vm.Un.eq_1/\type_of% @Go.Vm.ajm.eq_1/\type_of% @Go.Vm.rj.eq_1/\type_of% @Go.Vm.rj.eq_2/\type_of% @Go.Vm.rj.eq_3/\type_of% @Go.Vm.rj.eq_4/\type_of% @Go.Vm.rj.eq_5/\type_of% @Go.Vm.rj.eq_6/\type_of% @Go.Vm.rj.eq_7/\type_of% @Go.Vm.rj.eq_8/\type_of% @Go.Vm.rj.eq_9/\type_of% @Go.Vm.rj.eq_10/\type_of% @Go.Vm.AV.int.eq_1/\type_of% @Go.Vm.AV.bool.eq_1/\type_of% @Go.Vm.AV.exact.eq_1/\type_of% @Go.Vm.AV.exact.eq_2/\type_of% @Go.Vm.intOf.eq_1/\type_of% @Go.Vm.intOf.eq_2/\type_of% @Go.Vm.ti.eq_1/\type_of% @Go.Vm.xg.eq_1/\type_of% @Go.Vm.Db.eq_1/\type_of% @Go.Vm.Db.eq_2/\type_of% @Go.Vm.yh.eq_1/\type_of% @Go.Vm.Hq.eq_1/\type_of% @Go.Vm.tc.eq_1/\type_of% @Go.Vm.A4.eq_1/\type_of% @Go.Vm.qv.eq_1/\type_of% @Go.Vm.qv.eq_3/\type_of% @Go.Vm.qv.eq_5/\type_of% @Go.Vm.qv.eq_7/\type_of% @Go.Vm.qv.eq_9/\type_of% @Go.Vm.Sk.eq_1/\type_of% @Go.Vm.Xa.eq_1/\type_of% @Go.Vm.Ym.eq_1/\type_of% @Go.Vm.isSlice.eq_3/\type_of% @Go.Vm.isSlice.eq_4/\type_of% @Go.Vm.T2.eq_1/\type_of% @Go.goInt.eq_1/\type_of% @axo/\type_of% @ay2/\type_of% @awe:=
 ⟨@Go.Vm.nb.eq_3,@Go.Vm.nb.eq_4,@Go.Vm.On.eq_1,@Go.Vm.Un.eq_1,@Go.Vm.ajm.eq_1,@Go.Vm.rj.eq_1,@Go.Vm.rj.eq_2,@Go.Vm.rj.eq_3,@Go.Vm.rj.eq_4,@Go.Vm.rj.eq_5,@Go.Vm.rj.eq_6,@Go.Vm.rj.eq_7,@Go.Vm.rj.eq_8,@Go.Vm.rj.eq_9,@Go.Vm.rj.eq_10,@Go.Vm.AV.int.eq_1,@Go.Vm.AV.bool.eq_1,@Go.Vm.AV.exact.eq_1,@Go.Vm.AV.exact.eq_2,@Go.Vm.intOf.eq_1,@Go.Vm.intOf.eq_2,@Go.Vm.ti.eq_1,@Go.Vm.xg.eq_1,@Go.Vm.Db.eq_1,@Go.Vm.Db.eq_2,@Go.Vm.yh.eq_1,@Go.Vm.Hq.eq_1,@Go.Vm.tc.eq_1,@Go.Vm.A4.eq_1,@Go.Vm.qv.eq_1,@Go.Vm.qv.eq_3,@Go.Vm.qv.eq_5,@Go.Vm.qv.eq_7,@Go.Vm.qv.eq_9,@Go.Vm.Sk.eq_1,@Go.Vm.Xa.eq_1,@Go.Vm.Ym.eq_1,@Go.Vm.isSlice.eq_3,@Go.Vm.isSlice.eq_4,@Go.Vm.T2.eq_1,@Go.goInt.eq_1,@axo,@ay2,@awe⟩
theorem R8:type_of% @Go.Vm.pack.eq_1/\type_of% @Go.Vm.pack.eq_2/\type_of% @Go.Vm.cj.eq_1/\type_of% @Go.Vm.cj.eq_2/\type_of% @Go.Vm.ay.eq_1/\type_of% @Go.Vm.ov.eq_1/\type_of% @Go.Vm.ov.eq_2/\type_of% @Go.Vm.yr.eq_1/\type_of% @nv/\type_of% @Gl/\type_of% @ad2/\type_of% @amg/\type_of% @De/\type_of% @C0/\type_of% @Hm/\type_of% @Z7/\type_of% @Y2/\type_of% @Yk/\type_of% @Ve/\type_of% @aay/\type_of% @Go.Vm.dq.eq_1/\type_of% @Go.Vm.gk.eq_1/\type_of% @Go.Vm.jx.eq_1/\type_of% @Go.Vm.sw.eq_1/\type_of% @Go.Vm.sw.eq_2/\type_of% @Go.Vm.reach.eq_1/\type_of% @Go.Vm.reach.eq_2/\type_of% @Go.Vm.reach.eq_3/\type_of% @Go.Vm.gu.eq_1/\type_of% @Go.Vm.ff.eq_1/\type_of% @Go.Vm.ff.eq_2/\type_of% @Go.Vm.AV.names.eq_1/\type_of% @Go.Vm.AV.names.eq_2/\type_of% @Go.Vm.AV.names.eq_3/\type_of% @Go.Vm.AV.names.eq_4/\type_of% @Go.Vm.AV.names.eq_5/\type_of% @Go.Vm.AV.names.eq_6/\type_of% @Go.Vm.AV.names.eq_9/\type_of% @Go.Vm.AV.names.go.eq_1/\type_of% @Go.Vm.AV.names.go.eq_2/\type_of% @Go.Vm.bk.names.eq_1/\type_of% @Go.Vm.bk.names.eq_2/\type_of% @Go.Vm.AV.cx.eq_1/\type_of% @Go.Vm.AV.cx.eq_2/\type_of% @Go.Vm.AV.cx.eq_3/\type_of% @Go.Vm.AV.cx.eq_4/\type_of% @Go.Vm.AV.cx.eq_5/\type_of% @Go.Vm.AV.cx.eq_6/\type_of% @Go.Vm.AV.cx.eq_7/\type_of% @Go.Vm.AV.cx.eq_8/\type_of% @Go.Vm.AV.cx.eq_11:=
 ⟨@Go.Vm.pack.eq_1,@Go.Vm.pack.eq_2,@Go.Vm.cj.eq_1,@Go.Vm.cj.eq_2,@Go.Vm.ay.eq_1,@Go.Vm.ov.eq_1,@Go.Vm.ov.eq_2,@Go.Vm.yr.eq_1,@nv,@Gl,@ad2,@amg,@De,@C0,@Hm,@Z7,@Y2,@Yk,@Ve,@aay,@Go.Vm.dq.eq_1,@Go.Vm.gk.eq_1,@Go.Vm.jx.eq_1,@Go.Vm.sw.eq_1,@Go.Vm.sw.eq_2,@Go.Vm.reach.eq_1,@Go.Vm.reach.eq_2,@Go.Vm.reach.eq_3,@Go.Vm.gu.eq_1,@Go.Vm.ff.eq_1,@Go.Vm.ff.eq_2,@Go.Vm.AV.names.eq_1,@Go.Vm.AV.names.eq_2,@Go.Vm.AV.names.eq_3,@Go.Vm.AV.names.eq_4,@Go.Vm.AV.names.eq_5,@Go.Vm.AV.names.eq_6,@Go.Vm.AV.names.eq_9,@Go.Vm.AV.names.go.eq_1,@Go.Vm.AV.names.go.eq_2,@Go.Vm.bk.names.eq_1,@Go.Vm.bk.names.eq_2,@Go.Vm.AV.cx.eq_1,@Go.Vm.AV.cx.eq_2,@Go.Vm.AV.cx.eq_3,@Go.Vm.AV.cx.eq_4,@Go.Vm.AV.cx.eq_5,@Go.Vm.AV.cx.eq_6,@Go.Vm.AV.cx.eq_7,@Go.Vm.AV.cx.eq_8,@Go.Vm.AV.cx.eq_11⟩
theorem R9:type_of% @Go.Vm.bk.cx.eq_1/\type_of% @Go.Vm.bk.cx.eq_2/\type_of% @Pk/\type_of% @ary/\type_of% @Go.Vm.ky.eq_1/\type_of% @Go.Vm.ky.eq_2/\type_of% @Go.Vm.fm.eq_2/\type_of% @kr/\type_of% @Option.bind_some.{0,0}/\type_of% @Option.bind_none.{0,0}/\type_of% @Option.map_some.{0,0}/\type_of% @Option.getD_some.{0}/\type_of% @Option.getD_none.{0}/\type_of% @Option.isSome_some.{0}/\type_of% @List.getElem?_cons_zero.{0}/\type_of% @List.getElem?_toArray.{0}/\type_of% @Go.Vm.cz.eq_1/\type_of% @List.drop_zero.{0}/\type_of% @List.drop_succ_cons.{0}/\type_of% @List.drop_nil.{0}/\type_of% @List.take_succ_cons.{0}/\type_of% @List.take_zero.{0}/\type_of% @List.length_cons.{0}/\type_of% @List.length_nil.{0}/\type_of% @List.length_map.{0,0}/\type_of% @List.getElem?_cons_succ.{0}/\type_of% @List.getElem?_nil.{0}/\type_of% @List.getElem?_map.{0,0}/\type_of% @List.getElem?_drop.{0}/\type_of% @List.map_cons.{0,0}/\type_of% @List.map_nil.{0,0}/\type_of% @List.nil_append.{0}/\type_of% @List.cons_append.{0}/\type_of% @List.append_nil.{0}/\type_of% @List.all_cons.{0}/\type_of% @List.all_nil.{0}/\type_of% @cond_true.{1}/\type_of% @cond_false.{1}/\type_of% @decide_true/\type_of% @decide_false/\type_of% @Bool.and_true/\type_of% @Bool.true_and/\type_of% @Bool.and_self/\type_of% @Bool.not_true/\type_of% @Bool.not_false/\type_of% @BEq.rfl.{0}/\type_of% @zzb/\type_of% @zza/\type_of% @Nat.add_zero/\type_of% @Nat.zero_add/\type_of% @Nat.mul_one/\type_of% @Int.toNat_natCast/\type_of% @Int.natCast_nonneg:=
 ⟨@Go.Vm.bk.cx.eq_1,@Go.Vm.bk.cx.eq_2,@Pk,@ary,@Go.Vm.ky.eq_1,@Go.Vm.ky.eq_2,@Go.Vm.fm.eq_2,@kr,@Option.bind_some.{0,0},@Option.bind_none.{0,0},@Option.map_some.{0,0},@Option.getD_some.{0},@Option.getD_none.{0},@Option.isSome_some.{0},@List.getElem?_cons_zero.{0},@List.getElem?_toArray.{0},@Go.Vm.cz.eq_1,@List.drop_zero.{0},@List.drop_succ_cons.{0},@List.drop_nil.{0},@List.take_succ_cons.{0},@List.take_zero.{0},@List.length_cons.{0},@List.length_nil.{0},@List.length_map.{0,0},@List.getElem?_cons_succ.{0},@List.getElem?_nil.{0},@List.getElem?_map.{0,0},@List.getElem?_drop.{0},@List.map_cons.{0,0},@List.map_nil.{0,0},@List.nil_append.{0},@List.cons_append.{0},@List.append_nil.{0},@List.all_cons.{0},@List.all_nil.{0},@cond_true.{1},@cond_false.{1},@decide_true,@decide_false,@Bool.and_true,@Bool.true_and,@Bool.and_self,@Bool.not_true,@Bool.not_false,@BEq.rfl.{0},@zzb,@zza,@Nat.add_zero,@Nat.zero_add,@Nat.mul_one,@Int.toNat_natCast,@Int.natCast_nonneg⟩
theorem R10:type_of% @Nat.sub_self/\type_of% @List.contains_nil.{0}/\type_of% @List.contains_cons.{0}/\type_of% @Bool.or_false/\type_of% @Bool.false_or/\type_of% @Bool.or_true/\type_of% @Bool.true_or/\type_of% @List.map_map.{0,0,0}/\type_of% @al9/\type_of% @I0/\type_of% @Sg/\type_of% @Q0/\type_of% @aet/\type_of% @aeb/\type_of% @Yo/\type_of% @U7/\type_of% @aap/\type_of% @aJs/\type_of% @aI2/\type_of% @aHr/\type_of% @aIi/\type_of% @aIo/\type_of% @aI0/\type_of% @alm/\type_of% @amw/\type_of% @ae1/\type_of% @Y4/\type_of% @ajn/\type_of% @Go.Vm.AV.fresh.eq_1/\type_of% @Go.Vm.AV.fresh.eq_3/\type_of% @Go.Vm.AV.fresh.eq_4/\type_of% @Go.Vm.AV.fresh.go.eq_1/\type_of% @Go.Vm.AV.fresh.go.eq_2/\type_of% @List.map_append.{0,0}:=
 ⟨@Nat.sub_self,@List.contains_nil.{0},@List.contains_cons.{0},@Bool.or_false,@Bool.false_or,@Bool.or_true,@Bool.true_or,@List.map_map.{0,0,0},@al9,@I0,@Sg,@Q0,@aet,@aeb,@Yo,@U7,@aap,@aJs,@aI2,@aHr,@aIi,@aIo,@aI0,@alm,@amw,@ae1,@Y4,@ajn,@Go.Vm.AV.fresh.eq_1,@Go.Vm.AV.fresh.eq_3,@Go.Vm.AV.fresh.eq_4,@Go.Vm.AV.fresh.go.eq_1,@Go.Vm.AV.fresh.go.eq_2,@List.map_append.{0,0}⟩
theorem RA:type_of% R0/\type_of% R1/\type_of% R2/\type_of% R3/\type_of% R4/\type_of% R5/\type_of% R6/\type_of% R7/\type_of% R8/\type_of% R9/\type_of% R10:=
 ⟨R0,R1,R2,R3,R4,R5,R6,R7,R8,R9,R10⟩
theorem FB:type_of% @List.cons.injEq.{0}/\type_of% @aea/\type_of% @ae9/\type_of% @List.length_append.{0}/\type_of% @List.length_cons.{0}/\type_of% @List.length_nil.{0}/\type_of% @List.map_append.{0,0}/\type_of% @List.map_cons.{0,0}/\type_of% @List.map_nil.{0,0}/\type_of% @and_true/\type_of% @true_and/\type_of% @and_self/\type_of% @AV.sc.injEq/\type_of% @AV.sl.injEq/\type_of% @bk.row.injEq/\type_of% @Option.some.injEq.{0}/\type_of% @Value.int.injEq/\type_of% @Nat.zero_add:=
 ⟨@List.cons.injEq.{0},@aea,@ae9,@List.length_append.{0},@List.length_cons.{0},@List.length_nil.{0},@List.map_append.{0,0},@List.map_cons.{0,0},@List.map_nil.{0,0},@and_true,@true_and,@and_self,@AV.sc.injEq,@AV.sl.injEq,@bk.row.injEq,@Option.some.injEq.{0},@Value.int.injEq,@Nat.zero_add⟩
theorem zF {p:Prop} (h:p:=by (first|rfl|trivial|omega|((try (simp (disch:=omega) only [ag]));(try (simp only [FB]));first|done|rfl|omega))):p:=h
end Go.Vm
end
section
namespace Go.Vm
variable [TK]
noncomputable section
open Go.ChangeShapes Go.WideShapes Go.ChangeAt
mutual
def qc {H:Type}:DataW H->Nat
 |.lit (.string bytes)=>bytes.length+1
 |.lit _=>1
 |.nil=>1
 |.ptr d=>qc d+1
 |.slice elems spare=>re elems+re spare+1
 |.agg parts=>re parts+1
 |.iface _ d=>qc d+1
 |.map entries=>Z8 entries+1
 |.held _=>1
def re {H:Type}:List (DataW H)->Nat
 | []=>0
 |d::r=>qc d+re r
def Z8 {H:Type}:List (Lit × DataW H)->Nat
 | []=>0
 |x::r=>auw x+Z8 r
def auw {H:Type}:Lit × DataW H->Nat
 |(.string bytes,d)=>bytes.length+qc d+1
 |(_,d)=>qc d+1
end
def ak9 (W:World):Nat->Nat->Prop:=fun b _=>b<W.heap.size
def Rd (P:Program) (t:TypeId) {α:Type} (C:er α) (μ : α->Nat):Prop:=
 ∀ {H:Type} (enc:TypeId × Value->H) (W:World) (b0 fuel:Nat) (cs:List Value) (x:DataW H × List MemPlace),DataW.trod enc P W 0 (fun _=>true) true fuel t cs=some x ->
  ∃ y,bz (gK b0 (ak9 W)) W (C.cells false y) cs /\ μ y<=qc x.1
theorem aJ5 {P:Program} {t:TypeId} (ht:P.underlying t=some (.int .u8)):Rd P t bt (fun _=>1):=by
 intro H enc W b0 fuel cs x h;obtain ⟨n,rfl,rfl,hw⟩:=DataW.trod_int ht h;have hx : 0<=n/\n<=255:=by simpa [Lit.wf,IntKind.min,IntKind.max,IntKind.signed,IntKind.bits] using hw
 refine ⟨UInt8.ofNat n.toNat,?_,by simp [qc]⟩;have:n=((UInt8.ofNat n.toNat).toNat:Int):=by rw [UInt8.toNat_ofNat'];omega
 exact bz.one (by (conv=>rhs;rw [this]);exact .sc _)
theorem aw3 {P:Program} {t:TypeId} (ht:P.underlying t=some (.int .u16)):Rd P t ct (fun _=>1):=by
 intro H enc W b0 fuel cs x h;obtain ⟨n,rfl,rfl,hw⟩:=DataW.trod_int ht h;have hx : 0<=n/\n<=65535:=by simpa [Lit.wf,IntKind.min,IntKind.max,IntKind.signed,IntKind.bits] using hw
 refine ⟨UInt16.ofNat n.toNat,?_,by simp [qc]⟩;have:n=((UInt16.ofNat n.toNat).toNat:Int):=by rw [UInt16.toNat_ofNat'];omega
 exact bz.one (by (conv=>rhs;rw [this]);exact .sc _)
theorem ayj {P:Program} {t:TypeId} (ht:P.underlying t=some (.int .u32)):Rd P t cy (fun _=>1):=by
 intro H enc W b0 fuel cs x h;obtain ⟨n,rfl,rfl,hw⟩:=DataW.trod_int ht h;have hx : 0<=n/\n<=4294967295:=Go.bounds_u32 hw;refine ⟨UInt32.ofNat n.toNat,?_,by simp [qc]⟩;have:n=((UInt32.ofNat n.toNat).toNat:Int):=by rw [UInt32.toNat_ofNat'];omega
 exact bz.one (by (conv=>rhs;rw [this]);exact .sc _)
theorem aHq {P:Program} {t:TypeId} (ht:P.underlying t=some .string):Rd P t ah (fun s=>s.size+1):=by intro H enc W b0 fuel cs x h;obtain ⟨s,rfl,rfl,_⟩:=DataW.trod_string ht h;refine ⟨s,bz.one (.sc _),?_⟩;show s.size+1<=qc (DataW.lit (Lit.string s.data.toList));rw [qc,zya];exact zza _
theorem aEz (ao k s v j:Nat) (h3:v=k * s) (hge:v<=j):ao+k * s+(j - v)=ao+j:=by rw [<- h3];omega
def um {α:Type} (μ : α->Nat):List α->Nat
 | []=>0
 |x::r=>μ x+um μ r
theorem U6 {α:Type} (μ : α->Nat):∀ a b:List α,um μ (a++b)=um μ a+um μ b
 | [],b=>by simp [um]
 |x::a,b=>by simp [um,U6 μ a b];omega
theorem Rw {H:Type}:∀ a b:List (DataW H),re (a++b)=re a+re b
 | [],b=>by simp [re]
 |x::a,b=>by simp [re,Rw a b];omega
theorem aGk {P:Program} {t e:TypeId} {α:Type} {C:er α} {μ : α->Nat} (ht:P.underlying t=some (.slice e)) (hsz:P.cellsOf e=C.sz) (gG : 0<C.sz) (he:Rd P e C μ):Rd P t (bw C) (fun l=>um μ l+1):=by
 intro H enc W b0 fuel cs x h;rcases Go.Deep.open_slice ht h with ⟨rfl,rfl⟩|⟨a,len,cap,m,n,D,Pl,rfl,_,hl,hm,hmm,rfl,hx⟩
 ·exact ⟨[],bz.one (.ni _ _),by simp [um,qc]⟩
 ·simp only [if_true] at hmm;subst hmm;have spot : 0<m->a.spot=none/\a.block<W.heap.size:=by
   intro h0;obtain ⟨cs',h1,_⟩:=hx 0 h0;rw [hsz] at h1;simp only [World.cells?,zzb,if_true] at h1;have h2:=mapM_some_get h1 0 0 (by simp [gG]);have hlen:=mapM_some_length h1;have h3:∃ v,cs'[0]? = some v:=⟨cs'[0]'(by rw [hlen];simpa using gG),by simp⟩;obtain ⟨v,hv⟩:=h3;rw [hv] at h2;simp only [Nat.zero_mul,Addr.add,if_true] at h2;simp only [World.cell?] at h2
   split at h2
   ·rename_i c _ _ hb;cases hs:a.spot with
    |none=>exact ⟨rfl,cd hb⟩
    |some s=>simp [hs] at h2
   ·cases h2
  have build:∀ k,k<=len->∃ (xs:List α) (vs:List Value),xs.length=k/\bz (gK b0 (ak9 W)) W (xs.flatMap (C.cells false)) vs/\vs.length=k * C.sz/\(∀ j v,vs[j]? = some v->W.cell? ⟨a.block,a.off+j,none⟩=some v) /\
   um μ xs<=re ((List.range k).map D):=by
   intro k
   induction k with
   |zero=>intro _;exact ⟨[],[],rfl,bz.nil _ _,by simp,(fun j v hj=>by simp at hj),by simp [um,re]⟩
   |succ k ih=>
    intro hk;obtain ⟨xs,vs,h1,h2,h3,h4,h5⟩:=ih zO;obtain ⟨cs',h6,h7⟩:=hx k zO;obtain ⟨y,h8,h9⟩:=he enc W b0 n cs' _ h7;rw [hsz] at h6;simp only [World.cells?,zzb,if_true] at h6;have hlen:=mapM_some_length h6;simp only [List.length_range] at hlen;refine ⟨xs++[y],vs++cs',by simp [h1],?_,by simp [h3,hlen,Nat.succ_mul],fun j v hj=>?_,?_⟩
    ·rw [List.flatMap_append];exact h2.append (by simpa using h8)
    ·by_cases kP:j<vs.length
     ·rw [zzi kP] at hj;exact h4 j v hj
     ·rw [zzd zO] at hj;have iQ:=(zg.1 hj).1;have h10:=mapM_some_get h6 (j - vs.length) (j - vs.length) (zyk (by rw [<- hlen];exact iQ));rw [hj] at h10;have hs:=(spot zO).1;have e:(a.add (k * C.sz)).add (j - vs.length)=⟨a.block,a.off+j,none⟩:=by
       obtain ⟨ab,ao,xE⟩:=a;simp only at hs;subst hs;rw [Addr.sn,Addr.sn];have hge:vs.length<=j:=Nat.le_of_not_lt kP;rw [aEz ao k C.sz vs.length j h3 hge]
      rw [e] at h10;exact h10
    ·rw [U6,List.range_succ,zzw,Rw];simp only [um,List.map_cons,List.map_nil,re];have : μ y<=qc (D k):=h9;omega
  obtain ⟨xs,vs,h1,h2,h3,h4,h5⟩:=build len (zza _);refine ⟨xs,bz.one ?_,by
   simp only [qc];have:um μ xs<=re ((List.range len).map D):=h5;omega⟩
  by_cases h0 : 0<m
  ·obtain ⟨hs,hb⟩:=spot h0;obtain ⟨ab,ao,xE⟩:=a;simp only at hs hb h4;subst hs;rw [<- h1];refine as4 C h2 zO (fun e=>by cases e) (fun j v hj=>⟨hb,h4 j v hj⟩) (fun e=>by cases e)
  ·have hl0:len=0:=zO;have hm0:m=0:=zO;subst hl0 hm0;have:xs=[]:=zzf h1;subst this;exact .xk _ _ _
def RdF (P:Program) (fs:List Field) (off:Nat) {α:Type} (C:er α) (μ : α->Nat):Prop:=
 ∀ {H:Type} (enc:TypeId × Value->H) (W:World) (b0 n:Nat) (cs:List Value) (ys:List (DataW H × List MemPlace)),ys.length=fs.length ->
  (∀ (i:Nat) f,fs[i]? = some f->DataW.trod enc P W 0 (fun _=>true) true n f.type ((cs.drop f.offset).take (P.cellsOf f.type))=ys[i]?) ->
  ∃ y,bz (gK b0 (ak9 W)) W (C.cells false y) ((cs.drop off).take C.sz) /\ μ y<=re (ys.map (·.1))
theorem aG7 {P:Program} {f:Field} {off:Nat} {α:Type} {C:er α} {μ : α->Nat} (ho:f.offset=off) (hs:P.cellsOf f.type=C.sz) (h:Rd P f.type C μ):RdF P [f] off C μ:=by
 intro H enc W b0 n cs ys hl hf
 match ys,hl with
 | [y0],_=>
  have:=hf 0 f rfl;obtain ⟨y,h1,h2⟩:=h enc W b0 n _ y0 this;rw [ho,hs] at h1;exact ⟨y,h1,by simp [re];exact h2⟩
theorem aA5 {P:Program} {f:Field} {fs:List Field} {off:Nat} {α β:Type} {A:er α} {B:er β} {μ : α->Nat} {ν : β->Nat} (ho:f.offset=off) (hs:P.cellsOf f.type=A.sz) (h:Rd P f.type A μ) (hr:RdF P fs (off+A.sz) B ν) :
 RdF P (f::fs) off (mi A B) (fun p=>μ p.1 + ν p.2):=by
 intro H enc W b0 n cs ys hl hf
 match ys,hl with
 |y0::ys,hl=>
  have h0:=hf 0 f rfl;obtain ⟨y,h1,h2⟩:=h enc W b0 n _ y0 h0;obtain ⟨z,h3,h4⟩:=hr enc W b0 n cs ys (by simpa using hl) (fun i g hg=>by have:=hf (i+1) g (by simpa using hg);simpa using this);rw [ho,hs] at h1;refine ⟨(y,z),?_,by simp [re];omega⟩;have:=h1.append h3
  rwa [show (cs.drop off).take A.sz++(cs.drop (off+A.sz)).take B.sz=(cs.drop off).take (A.sz+B.sz) from by rw [List.take_add,List.drop_drop]] at this
theorem ay6 {P:Program} {t:TypeId} {fs:Array Field} {α:Type} {C:er α} {μ : α->Nat} (ht:P.underlying t=some (.struct fs)) (hc:P.cellsOf t=C.sz) (h:RdF P fs.toList 0 C μ):Rd P t C (fun x=>μ x+1):=by
 intro H enc W b0 fuel cs x hx;obtain ⟨xs,n,_,rfl,hl,hlen,hf⟩:=DataW.trod_struct ht hx;obtain ⟨y,h1,h2⟩:=h enc W b0 n cs xs (by simpa using hlen) (fun i f hi=>hf i f (by simpa using hi));refine ⟨y,?_,by simp [qc];exact h2⟩
 rwa [List.drop_zero,zzp zO] at h1
theorem aH8 {P:Program} {t:TypeId} {α β:Type} {C:er α} {μ : α->Nat} {f : β -> α} {i : α -> β} {h1:∀ y,i (f y)=y} {h2:∀ x,f (i x)=x} (h:Rd P t C μ):Rd P t (Em C f i h1 h2) (fun y=>μ (f y)):=by intro H enc W b0 fuel cs x hx;obtain ⟨y,h3,h4⟩:=h enc W b0 fuel cs x hx;exact ⟨i y,by show bz _ _ (C.cells false (f (i y))) cs;rw [h2];exact h3,by show μ (f (i y))<=_;rw [h2];exact h4⟩
def RdA (P:Program) (ts:List TypeId) {α:Type} (A:AC α) (μ : α->Nat):Prop:=
 ∀ {H:Type} (enc:TypeId × Value->H) (W:World) (b0 b1:Nat) (vs:List Value) (ds:List (DataW H)) (ps:List MemPlace),(∀ (j:Nat) t v,ts[j]? = some t->vs[j]? = some v->Value.okWide P W .any b1 t v) ->
  DataW.TrodAll enc P W 0 (fun _=>true) true ts vs ds ps->∃ y,bz (gK b0 (ak9 W)) W (A.E y) vs /\ μ y<=re ds
theorem aGi (P:Program):RdA P [] a0 (fun _=>0):=by intro H enc W b0 b1 vs ds ps _ h;obtain ⟨rfl,rfl,rfl⟩:=trodAll_nil h;exact ⟨(),bz.nil _ _,zzb _⟩
theorem atq {P:Program} {W:World} {b:Nat} {t:TypeId} {v:Value} (h:mc P t=some true) (ho:Value.okWide P W .any b t v):∃ cs,v = .agg cs:=by
 unfold mc at h;unfold Value.okWide at ho;cases hu:P.underlying t with
 |none=>rw [hu] at h;cases h
 |some d=>
  rw [hu] at h ho;cases d<;>simp_all<;>exact ⟨_,ho.choose_spec.1⟩
theorem ah4 {P:Program} {t:TypeId} {ts:List TypeId} {α β:Type} {C:er α} {R:AC β} {μ : α->Nat} {ν : β->Nat} (ha:mc P t=some C.agg) (h:Rd P t C μ) (hr:RdA P ts R ν):RdA P (t::ts) (aC C R) (fun p=>μ p.1 + ν p.2):=by
 intro H enc W b0 b1 vs ds ps aB hall;obtain ⟨v,vK,d,xB,p,q,rfl,rfl,rfl,h0,h1⟩:=trodAll_cons hall;obtain ⟨fuel,hf⟩:=h0;obtain ⟨y,h2,h3⟩:=h enc W b0 fuel _ _ hf;obtain ⟨z,h4,h5⟩:=hr enc W b0 b1 vK xB q (fun j t v ht hv=>aB (j+1) t v (by simpa using ht) (by simpa using hv)) h1;have jZ : μ y<=qc d:=h3;refine ⟨(y,z),bz.cons ?_ h4,by simp only [re];omega⟩;have hv:=aB 0 t v rfl rfl;show Rel _ _ (C.val false y) v;unfold er.val;cases hg:C.agg with
 |true=>
  obtain ⟨cs,rfl⟩:=atq (by rw [ha,hg]) hv;exact .agg _ cs (by simpa [Value.cells] using h2.1) (fun i a v ha hv=>h2.2 i a v ha (by simpa [Value.cells] using hv))
 |false=>
  obtain ⟨c,h6,h7,_⟩:=C.one hg false y;rw [cond_false,h6];rw [h6] at h2;have hcs:v.cells.toList=[v]:=by
   have hl:=h2.1;simp only [zyi] at hl;cases v with
   |agg cs=>
    exfalso;unfold mc at ha;unfold Value.okWide at hv;cases hu:P.underlying t with
    |none=>rw [hu] at ha;cases ha
    |some d=>
     rw [hu] at ha hv;have hcell:Cell.okWide P W .any b1 t (.agg cs):=by cases d<;>simp_all
     rw [hg] at ha;unfold Cell.okWide Cell.ok at hcell;rw [hu] at hcell;cases d<;>simp_all
   |_=>rfl
  rw [hcs] at h2;exact h2.head
theorem aku {W W':World} (q:ta W W') {p:MemPlace} (h:p.block<W.heap.size):W.sameAt W' p:=by
 cases p with
 |cell b off=>exact th (q.heap b h)
 |map b=>exact q.heap b h
theorem again {H:Type} {enc:TypeId × Value->H} {P:Program} {W W':World} {sp:Nat->Bool} (K:Kids P (· < P.types.size)) (hz:∀ t e,t<P.types.size->P.underlying t=some (.slice e)->0<P.cellsOf e) (q:ta W W') :
 ∀ {ts:List TypeId} {vs:List Value} {ds:List (DataW H)} {ps:List MemPlace},(∀ t ∈ ts,t<P.types.size)->DataW.TrodAll enc P W 0 (fun _=>true) true ts vs ds ps->(∀ p ∈ ps,sp p.block=true)->(∀ p ∈ ps,p.block<W.heap.size) ->
  DataW.TrodAll enc P W' 0 sp true ts vs ds ps
 | [],[],[],_,_,h,_,_=>h
 |t::ts,v::vs,d::ds,ps,hT,⟨p,p',h1,h2,e⟩,hs,hl=>by obtain ⟨n,hn⟩:=h1;subst e;have h3:=DataW.trod_respare (spare':=sp) K hz n t _ _ (hT t (by simp)) hn (fun x hx=>hs x (by simp only [zzq];exact .inl hx));have h4:=DataW.trod_carry (w':=W') n t _ _ h3 (fun x hx=>aku q (hl x (by simp only [zzq];exact .inl hx)));exact ⟨p,p',⟨n,h4⟩,again K hz q (fun t ht=>hT t (by simp [ht])) h2 (fun x hx=>hs x (by simp [hx])) (fun x hx=>hl x (by simp [hx])),rfl⟩
theorem asz {W W':World} (q:ta W W') (may:MemPlace->Prop):W.keptBut W' may:=by
 refine ⟨q.os,q.output,fun i hi=>?_⟩;rw [q.heap i hi]
 split
 ·rename_i c t fr c' t' dK h1 h2;rw [h1] at h2;cases h2;exact ⟨rfl,rfl,rfl,fun _ _=>rfl⟩
 ·rename_i es cl es' CN h1 h2;rw [h1] at h2;cases h2;exact .inr ⟨rfl,rfl⟩
 ·rfl
def as5 (P:Program):Bool:=(List.range P.types.size).all fun t=>match P.underlying t with|some (.slice e)=>Nat.blt 0 (P.cellsOf e)|_=>true
theorem ag2 {P:Program} (h:as5 P=true) (t e:TypeId) (ht:t<P.types.size) (hu:P.underlying t=some (.slice e)) : 0<P.cellsOf e:=by have:=zz9.1 h t (List.mem_range.2 ht);simp only [hu] at this;exact zB this
def aFy (P:Program) (l:List TypeId):Bool:=l.all fun t=>Nat.blt t P.types.size
theorem atx {P:Program} {l:List TypeId} (h:aFy P l=true):∀ t ∈ l,t<P.types.size:=fun t ht=>zB (zz9.1 h t ht)
theorem aC1 {P:Program} [KP P] (pL:laidOutB P=true) (pH:mapsRowed P=true) (hz:∀ t e,t<P.types.size->P.underlying t=some (.slice e)->0<P.cellsOf e) {f:Nat} {fn:Func} {s:ChangeSpec} {tb:TypeId}
 (he:qk P f=true) (kG:s.vars=[]) (hres:fn.resultTypes = #[tb]) (yN:P.underlying tb=some .bool) (sP:∀ t ∈ fn.params.toList,t<P.types.size)
 (hfn:∀ (H:Type) (ds:List (DataW H)),ds.length=fn.params.toList.length->s.fn H ds = { results:=[.lit (.bool true)],args:=ds }) {α:Type} {A:AC α} {μ : α->Nat} (hA:RdA P fn.params.toList A μ) {N:Option Nat}
 (aW:∀ x,(∀ n,N=some n -> μ x<=n)->bo P f (A.E x) (.sc (.bool true)))
 {H:Type} (enc:TypeId × Value->H) (W:World) (base:Nat) (args:Array Value) (ds gs:List (DataW H)) (before:List MemPlace) (hval:∀ (j:Nat) t v,fn.params[j]? = some t->args[j]? = some v->Value.okWide P W .any base t v)
 (hW:DataW.Whole enc P fn.params.toList s.vars false W args.toList ds gs before) (hN:∀ n,N=some n->re (ds++gs)<=n) :
 Calls P f args W fun e W'=>∃ v,e = .returned v/\s.post enc P fn false true false false W args v W':=by
 have wT:=hW;obtain ⟨p,q,rR,hV,rfl,hfz,cR⟩:=hW;rw [kG] at hV;obtain ⟨rfl,rfl⟩:=trodVars_none hV;obtain ⟨x,hx,hμ⟩:=hA enc W W.heap.size base args.toList ds p (fun j t v ht hv=>hval j t v (by simpa using ht) (by simpa using hv)) rR;have hp:=aW x (fun n hn=>zzu hμ (by have:=hN n hn;simpa using this)) (ak9 W) W args.toList (fun _ _ h=>h) hx;have hlen:ds.length=fn.params.toList.length:=by
  have:∀ {ts:List TypeId} {vs:List Value} {ds:List (DataW H)} {ps:List MemPlace},DataW.TrodAll enc P W 0 (fun _=>true) true ts vs ds ps->ds.length=ts.length:=by
   intro ts
   induction ts with
   |nil=>intro vs ds ps h;obtain ⟨_,rfl,_⟩:=trodAll_nil h;rfl
   |cons t ts ih=>intro vs ds ps h;obtain ⟨v,vK,d,xB,p,q,rfl,rfl,rfl,h0,h1⟩:=trodAll_cons h;simp [ih h1]
  exact this rR
 have hlt:∀ y ∈ p++[],y.block<W.heap.size:=fun y hy=>wT.lt y hy
 have aQ:=hfn H ds hlen;rcases hp with ⟨v,hv,_⟩|⟨_,hc⟩
 ·rw [ur he] at hv;cases hv
 ·refine hc.mono ?_;rintro e W' ⟨v,rfl,hq,hr⟩;obtain rfl:=hr.exact rfl;refine ⟨_,rfl,ds,[],p++[],[],p,[],wT,?_,?_,?_,asz hq _,fun e=>by cases e⟩
  ·rw [zzn,aQ,hres];exact trodAll_cons_mk (Go.RowKit.shut_bool yN _) trodAll_mk0
  ·rw [zzn,aQ];exact again (kids_rows pL pH) hz hq sP rR (fun y hy=>by have:=hlt y (by simp [hy]);simpa using this) (fun y hy=>hlt y (by simp [hy]))
  ·rw [zzn,aQ,kG];rfl
end
end Go.Vm
end
namespace Go.Vm
noncomputable instance tkI:TK:=⟨fc Go.Proofs.Tryz.prog,aAx Go.Proofs.Tryz.prog⟩
instance kpI:KP Go.Proofs.Tryz.prog:=⟨rfl,rfl⟩
end Go.Vm
section
namespace Go.Vm
open Go.Proofs
theorem az0:(Tryz.prog.underlying 3=some (.int .i64)) /\
 (Tryz.prog.underlying 5=some (.int .u8)) /\
 (Tryz.prog.underlying 9=some (.string)) /\
 (Tryz.prog.underlying 22=some (.slice 9)) /\
 (Tryz.prog.underlying 23=some (.slice 9)) /\
 (Tryz.prog.underlying 24=some (.slice 63)) /\
 (Tryz.prog.underlying 51=some (.slice 23)) /\
 (Tryz.prog.underlying 60=some (.int .u32)):=
 ⟨zK,zK,zK,zK,zK,zK,zK,zK⟩
theorem aw4:(Tryz.prog.underlying 61=some (.slice 116)) /\
 (Tryz.prog.underlying 85=some (.slice 124)) /\
 (Tryz.prog.underlying 113=some (.slice 60)) /\
 (Tryz.prog.underlying 114=some (.slice 5)) /\
 (Tryz.prog.underlying 161=some (.map 164 3)) /\
 (Tryz.prog.underlying 178=some (.slice 4)) /\
 (Tryz.prog.underlying 180=some (.slice 3)) /\
 (Tryz.prog.underlying 189=some (.pointer 191)) /\
 (Tryz.prog.underlying 229=some (.pointer 5)) /\
 (Tryz.prog.underlying 240=some (.int .u64)) /\
 (Tryz.prog.underlying 241=some (.slice 114)) /\
 (Tryz.prog.underlying 243=some (.unsafePointer)):=
 ⟨zK,zK,zK,zK,zK,zK,zK,zK,zK,zK,zK,zK⟩
theorem aAf:(mc Tryz.prog 3=some false) /\
 (mc Tryz.prog 4=some false) /\
 (mc Tryz.prog 5=some false) /\
 (mc Tryz.prog 9=some false) /\
 (mc Tryz.prog 22=some false) /\
 (mc Tryz.prog 23=some false) /\
 (mc Tryz.prog 24=some false) /\
 (mc Tryz.prog 26=some true):=
 ⟨zK,zK,zK,zK,zK,zK,zK,zK⟩
theorem avy:(mc Tryz.prog 33=some false) /\
 (mc Tryz.prog 50=some false) /\
 (mc Tryz.prog 51=some false) /\
 (mc Tryz.prog 59=some false) /\
 (mc Tryz.prog 60=some false) /\
 (mc Tryz.prog 61=some false) /\
 (mc Tryz.prog 63=some true) /\
 (mc Tryz.prog 113=some false) /\
 (mc Tryz.prog 114=some false) /\
 (mc Tryz.prog 116=some true):=
 ⟨zK,zK,zK,zK,zK,zK,zK,zK,zK,zK⟩
theorem awr:(mc Tryz.prog 124=some true) /\
 (mc Tryz.prog 144=some false) /\
 (mc Tryz.prog 164=some true) /\
 (mc Tryz.prog 185=some true) /\
 (mc Tryz.prog 189=some false) /\
 (mc Tryz.prog 209=some true):=
 ⟨zK,zK,zK,zK,zK,zK⟩
theorem aqa:(fc Tryz.prog 3=some 1) /\
 (fc Tryz.prog 4=some 1) /\
 (fc Tryz.prog 5=some 1) /\
 (fc Tryz.prog 9=some 1) /\
 (fc Tryz.prog 22=some 1) /\
 (fc Tryz.prog 23=some 1) /\
 (fc Tryz.prog 24=some 1) /\
 (fc Tryz.prog 26=some 2):=
 ⟨zK,zK,zK,zK,zK,zK,zK,zK⟩
theorem aqv:(fc Tryz.prog 33=some 1) /\
 (fc Tryz.prog 50=some 1) /\
 (fc Tryz.prog 51=some 1) /\
 (fc Tryz.prog 59=some 1) /\
 (fc Tryz.prog 60=some 1) /\
 (fc Tryz.prog 61=some 1) /\
 (fc Tryz.prog 63=some 5) /\
 (fc Tryz.prog 113=some 1) /\
 (fc Tryz.prog 114=some 1) /\
 (fc Tryz.prog 116=some 4):=
 ⟨zK,zK,zK,zK,zK,zK,zK,zK,zK,zK⟩
theorem arl:(fc Tryz.prog 124=some 8) /\
 (fc Tryz.prog 144=some 1) /\
 (fc Tryz.prog 164=some 3) /\
 (fc Tryz.prog 185=some 5) /\
 (fc Tryz.prog 189=some 1) /\
 (fc Tryz.prog 191=some 2) /\
 (fc Tryz.prog 209=some 5):=
 ⟨zK,zK,zK,zK,zK,zK,zK⟩
theorem amd:(mu Tryz.prog 4=some 1) /\
 (mu Tryz.prog 9=some 16):=
 ⟨zK,zK⟩
theorem aq2:(ic Tryz.prog 3=some (.int .i64 0)) /\
 (ic Tryz.prog 4=some (.bool false)) /\
 (ic Tryz.prog 5=some (.int .u8 0)) /\
 (ic Tryz.prog 9=some (.string .empty)) /\
 (ic Tryz.prog 23=some (.slice none 0 0)) /\
 (ic Tryz.prog 26=some (.agg #[.slice none 0 0,.slice none 0 0])):=
 ⟨zK,zK,zK,zK,zK,zK⟩
theorem aro:(ic Tryz.prog 63=some (.agg #[.slice none 0 0,.int .u16 0,.int .u16 0,.int .u32 0,.slice none 0 0])) /\
 (ic Tryz.prog 116=some (.agg #[.slice none 0 0,.slice none 0 0,.slice none 0 0,.slice none 0 0])):=
 ⟨zK,zK⟩
theorem arf:(ic Tryz.prog 124=some (.agg #[.slice none 0 0,.int .u16 0,.int .u16 0,.int .u32 0,.slice none 0 0,.slice none 0 0,.slice none 0 0,.slice none 0 0])) /\
 (ic Tryz.prog 164=some (.agg #[.string .empty,.int .u16 0,.int .u16 0])) /\
 (ic Tryz.prog 185=some (.agg #[.int .i64 0,.int .i64 0,.int .i64 0,.int .i64 0,.int .i64 0])) /\
 (ic Tryz.prog 191=some (.agg #[.pointer none,.slice none 0 0])) /\
 (ic Tryz.prog 209=some (.agg #[.int .i64 0,.int .i64 0,.int .i64 0,.int .i64 0,.int .i64 0])):=
 ⟨zK,zK,zK,zK,zK⟩
theorem aw2:(Gd Tryz.prog 22=some (9,1,[.sc (.string .empty)])) /\
 (Gd Tryz.prog 23=some (9,1,[.sc (.string .empty)])) /\
 (Gd Tryz.prog 24=some (63,5,[.sc (.slice none 0 0),.sc (.int .u16 0),.sc (.int .u16 0),.sc (.int .u32 0),.sc (.slice none 0 0)])) /\
 (Gd Tryz.prog 51=some (23,1,[.sc (.slice none 0 0)])) /\
 (Gd Tryz.prog 61=some (116,4,[.sc (.slice none 0 0),.sc (.slice none 0 0),.sc (.slice none 0 0),.sc (.slice none 0 0)])) /\
 (Gd Tryz.prog 85=some (124,8,[.sc (.slice none 0 0),.sc (.int .u16 0),.sc (.int .u16 0),.sc (.int .u32 0),.sc (.slice none 0 0),.sc (.slice none 0 0),.sc (.slice none 0 0),.sc (.slice none 0 0)])) /\
 (Gd Tryz.prog 113=some (60,1,[.sc (.int .u32 0)])) /\
 (Gd Tryz.prog 114=some (5,1,[.sc (.int .u8 0)])) /\
 (Gd Tryz.prog 180=some (3,1,[.sc (.int .i64 0)])) /\
 (Gd Tryz.prog 241=some (114,1,[.sc (.slice none 0 0)])):=
 ⟨zK,zK,zK,zK,zK,zK,zK,zK,zK,zK⟩
theorem ail:(Bc Tryz.prog 26=some ([.sc (.slice none 0 0),.sc (.slice none 0 0)],[(0,1),(1,1)])) /\
 (Bc Tryz.prog 63=some ([.sc (.slice none 0 0),.sc (.int .u16 0),.sc (.int .u16 0),.sc (.int .u32 0),.sc (.slice none 0 0)],[(0,1),(1,1),(2,1),(3,1),(4,1)])) /\
 (Bc Tryz.prog 116=some ([.sc (.slice none 0 0),.sc (.slice none 0 0),.sc (.slice none 0 0),.sc (.slice none 0 0)],[(0,1),(1,1),(2,1),(3,1)])) /\
 (Bc Tryz.prog 124=some ([.sc (.slice none 0 0),.sc (.int .u16 0),.sc (.int .u16 0),.sc (.int .u32 0),.sc (.slice none 0 0),.sc (.slice none 0 0),.sc (.slice none 0 0),.sc (.slice none 0 0)],[(0,1),(1,1),(2,1),(3,1),(4,4)])) /\
 (Bc Tryz.prog 146=some ([.sc (.slice none 0 0),.sc (.slice none 0 0),.sc (.int .i64 0)],[(0,2),(2,1)])):=
 ⟨zK,zK,zK,zK,zK⟩
theorem ai0:(Bc Tryz.prog 164=some ([.sc (.string .empty),.sc (.int .u16 0),.sc (.int .u16 0)],[(0,1),(1,1),(2,1)])) /\
 (Bc Tryz.prog 185=some ([.sc (.int .i64 0),.sc (.int .i64 0),.sc (.int .i64 0),.sc (.int .i64 0),.sc (.int .i64 0)],[(0,1),(1,1),(2,1),(3,1),(4,1)])) /\
 (Bc Tryz.prog 209=some ([.sc (.int .i64 0),.sc (.int .i64 0),.sc (.int .i64 0),.sc (.int .i64 0),.sc (.int .i64 0)],[(0,1),(1,1),(2,1),(3,1),(4,1)])):=
 ⟨zK,zK,zK⟩
theorem alc:(i6 Tryz.prog 26 0=some ⟨"Origin",23,0,false, "", "",0⟩) /\
 (i6 Tryz.prog 26 1=some ⟨"Sets",24,1,false, "", "",24⟩):=
 ⟨zK,zK⟩
theorem aml:(i6 Tryz.prog 63 0=some ⟨"Owner",23,0,false, "", "",0⟩) /\
 (i6 Tryz.prog 63 1=some ⟨"Type",50,1,false, "", "",24⟩) /\
 (i6 Tryz.prog 63 2=some ⟨"Class",59,2,false, "", "",26⟩) /\
 (i6 Tryz.prog 63 3=some ⟨"TTL",60,3,false, "", "",28⟩) /\
 (i6 Tryz.prog 63 4=some ⟨"Data",61,4,false, "", "",32⟩):=
 ⟨zK,zK,zK,zK,zK⟩
theorem ak4:(i6 Tryz.prog 116 0=some ⟨"Names",51,0,false, "", "",0⟩) /\
 (i6 Tryz.prog 116 1=some ⟨"Nums",113,1,false, "", "",24⟩) /\
 (i6 Tryz.prog 116 2=some ⟨"Texts",22,2,false, "", "",48⟩) /\
 (i6 Tryz.prog 116 3=some ⟨"Raw",114,3,false, "", "",72⟩) /\
 (i6 Tryz.prog 124 0=some ⟨"Owner",23,0,false, "", "",0⟩) /\
 (i6 Tryz.prog 124 1=some ⟨"Type",50,1,false, "", "",24⟩) /\
 (i6 Tryz.prog 124 2=some ⟨"Class",59,2,false, "", "",26⟩):=
 ⟨zK,zK,zK,zK,zK,zK,zK⟩
theorem ajz:(i6 Tryz.prog 124 3=some ⟨"TTL",60,3,false, "", "",28⟩) /\
 (i6 Tryz.prog 124 4=some ⟨"Data",116,4,false, "", "",32⟩) /\
 (i6 Tryz.prog 146 0=some ⟨"z",26,0,false, "", "nomenclator/zone",0⟩) /\
 (i6 Tryz.prog 146 1=some ⟨"e",33,2,false, "", "nomenclator/zone",48⟩) /\
 (i6 Tryz.prog 185 0=some ⟨"names",3,0,false, "", "nomenclator/rdata",0⟩) /\
 (i6 Tryz.prog 185 1=some ⟨"nums",3,1,false, "", "nomenclator/rdata",8⟩) /\
 (i6 Tryz.prog 185 2=some ⟨"size",3,2,false, "", "nomenclator/rdata",16⟩) /\
 (i6 Tryz.prog 185 3=some ⟨"texts",3,3,false, "", "nomenclator/rdata",24⟩) /\
 (i6 Tryz.prog 185 4=some ⟨"raw",3,4,false, "", "nomenclator/rdata",32⟩):=
 ⟨zK,zK,zK,zK,zK,zK,zK,zK,zK⟩
theorem ak5:(i6 Tryz.prog 191 0=some ⟨"addr",189,0,false, "", "strings",0⟩) /\
 (i6 Tryz.prog 191 1=some ⟨"buf",114,1,false, "", "strings",8⟩) /\
 (i6 Tryz.prog 209 0=some ⟨"Names",3,0,false, "", "",0⟩) /\
 (i6 Tryz.prog 209 1=some ⟨"Nums",3,1,false, "", "",8⟩) /\
 (i6 Tryz.prog 209 2=some ⟨"Texts",3,2,false, "", "",16⟩) /\
 (i6 Tryz.prog 209 3=some ⟨"Raw",3,3,false, "", "",24⟩) /\
 (i6 Tryz.prog 209 4=some ⟨"Wide",3,4,false, "", "",32⟩):=
 ⟨zK,zK,zK,zK,zK,zK,zK⟩
theorem axk:(Dy Tryz.prog 22=some (9,1,16)) /\
 (Dy Tryz.prog 23=some (9,1,16)) /\
 (Dy Tryz.prog 24=some (63,5,56)) /\
 (Dy Tryz.prog 51=some (23,1,24)) /\
 (Dy Tryz.prog 61=some (116,4,96)) /\
 (Dy Tryz.prog 85=some (124,8,128)) /\
 (Dy Tryz.prog 113=some (60,1,4)) /\
 (Dy Tryz.prog 114=some (5,1,1)):=
 ⟨zK,zK,zK,zK,zK,zK,zK,zK⟩
theorem aEt:(Ro 1 .str 9=true) /\
 (∀ kd,Ro 5 kd 63=true) /\
 (Ro 1 .no 23=true) /\
 (∀ kd,Ro 4 kd 116=true) /\
 (Ro 1 (.int .u32) 60=true) /\
 (Ro 1 (.int .u8) 5=true):=
 ⟨zK,fun _=>by kernel_rfl,zK,fun _=>by kernel_rfl,zK,zK⟩
theorem TF:type_of% az0/\type_of% aw4/\type_of% aAf/\type_of% avy/\type_of% awr/\type_of% aqa/\type_of% aqv/\type_of% arl/\type_of% amd/\type_of% aq2/\type_of% aro/\type_of% arf/\type_of% aw2/\type_of% ail/\type_of% ai0/\type_of% alc/\type_of% aml/\type_of% ak4/\type_of% ajz/\type_of% ak5/\type_of% axk/\type_of% aEt:=
 ⟨az0,aw4,aAf,avy,awr,aqa,aqv,arl,amd,aq2,aro,arf,aw2,ail,ai0,alc,aml,ak4,ajz,ak5,axk,aEt⟩
theorem zV:type_of% RA/\type_of% TF:=⟨RA,TF⟩
end Go.Vm
end
section
namespace Go.Proofs.YtjagjbceegbaiaaGreat
open Go.Vm
noncomputable abbrev PP:=Tryz.prog
theorem mixed:PP.follows .mixedOrders=true:=zK
theorem bf {T:fp} (hT:ak PP T) {f:Nat} {fn:Func} (hf:PP.funcs[f]? = some fn) (hb:fn.body.isSome=true) (he:qk PP f=true) (hs:fq fn.ntmps (fn.body.getD .skip)=true)
 {args:List AV} (hl:args.length<=fn.ntmps) {ρ:Type} (R:RC ρ) (fr:Bool) (x : ρ)
 (h:wl PP T 0 (fn.body.getD .skip) (di PP fn.results.toList (fun r st=>R.get fr st.h r=some x)) (cj 0 args) (ay [])):bo PP f args (R.E fr x):=
 ac2 (body:=fn.body.getD .skip) hT mixed hf (by cases hq:fn.body with|none=>rw [hq] at hb;cases hb|some b=>rfl) he hs hl R fr x h
def jw (s:ByteArray):Int:=if s.size<1\/63<s.size then 4 else 0
theorem agl (s:ByteArray):wl PP [] 0 (Tryz.f128.body.getD .skip) (di PP Tryz.f128.results.toList (fun r st=>(r1 (bh .i64)).get true st.h r=some (jw s))) (cj 0 [ah.val false s]) (ay []):=by
 unfold Tryz.f128;simp only [↓wR,zV,simprocAttr];rw [dv];refine ⟨fun h=>?_,fun h=>?_⟩
 ·have h1:s.size<1:=by simp at h;omega
  simp only [↓wR,zV,simprocAttr,jw,h,h1,true_or]
 ·have h1:¬ s.size<1:=by simp at h;omega
  simp only [↓wR,zV,simprocAttr,h];rw [dv];refine ⟨fun h=>?_,fun h=>?_⟩
  ·have h2 : 63<s.size:=by simp at h;omega
   simp only [↓wR,zV,simprocAttr,jw,h2,or_true]
  ·have h2:¬ 63<s.size:=by simp at h;omega
   simp only [↓wR,zV,simprocAttr,jw,h1,h2,or_self]
noncomputable def Me (x:ByteArray × Unit):Option AV:=some ((r1 (bh .i64)).E true (jw x.1))
theorem aai (x:ByteArray × Unit) (r:AV) (h:Me x=some r):bo PP 128 ((aC ah a0).E x) r:=by cases h;exact bf (ak.nil PP) Tryz.func128 zK zK zK zL (r1 (bh .i64)) true (jw x.1) (agl x.1)
noncomputable abbrev ava:Nat × Bool × (List AV->M AV):=(128,true,dg (aC ah a0) Me)
def br (n:Name):Nat:=n.foldl (fun k s=>k+(s.size+1)) 1
theorem agj (l:Name) (c:ByteArray):br (l++[c])=br l+(c.size+1):=by simp [br]
theorem H5 (n:Name) (i:Nat) (c:ByteArray) (h:n[i]? = some c):br (n.take (i+1))=br (n.take i)+(c.size+1):=by obtain ⟨hk,rfl⟩:=zg.1 h;rw [zz5 hk,agj]
theorem H6 (l:Name):∀ k,l.foldl (fun k s=>k+(s.size+1)) k=k+l.foldl (fun k s=>k+(s.size+1)) 0:=by
 induction l with
 |nil=>intro k;simp
 |cons a l ih=>intro k;simp only [List.foldl_cons];rw [ih,ih (0+_)];omega
theorem wu (a b:Name):br (a++b)+1=br a+br b:=by simp only [br,List.foldl_append];rw [H6 b,H6 b 1];omega
theorem ku (n:Name) (i:Nat):br (n.take i)<=br n/\n.length<br n:=by
 constructor
 ·have:=wu (n.take i) (n.drop i);rw [zzm] at this;have h1 : 1<=br (n.drop i):=by simp only [br];rw [H6];omega
  omega
 ·induction n with
  |nil=>simp [br]
  |cons a l ih=>
   have:=wu [a] l;simp only [List.singleton_append] at this;have h1:br [a]=a.size+2:=by simp [br];omega
   simp only [List.length_cons];omega
theorem wrap_i64 (x:Int) (h0 : -9223372036854775808<=x) (h1:x<9223372036854775808):IntKind.i64.wrap x=x:=by simp [IntKind.wrap,IntKind.bits,IntKind.signed];omega
theorem aom (n:Name) (hn:br n<17592186044416):wl PP [] 0 (Tryz.f129.body.getD .skip) (di PP Tryz.f129.results.toList (fun r st=>(r1 (bh .i64)).get true st.h r=some (br n:Int))) (cj 0 [au.val false n]) (ay []):=by
 unfold Tryz.f129;rw [cr];simp only [↓wR,zV,simprocAttr];refine da [3,6,7,8] (fun (x:Nat)=>[.sc (.int .i64 (br (n.take x))),.vl false 1 (n.map (ah.val false)),.sc (.int .i64 n.length),.sc (.int .i64 x)]) (fun _=>[]) (fun x=>x<=n.length) (fun x=>n.length - x) 0 (zzb _) ?_ ?_ ?_
 ·simp only [↓wR,zV,simprocAttr]<;>rfl
 ·simp only [↓wR,zV,simprocAttr]
 ·intro i hi;have h1:=ku n i;simp only [↓wR,zV,simprocAttr];rw [dv];refine ⟨fun h=>?_,fun h=>?_⟩
  ·have h4:i<n.length:=by simp at h;omega
   obtain ⟨c,hc⟩:∃ c,n[i]? = some c:=⟨n[i],by simp [h4]⟩;have h2:=H5 n i c hc;have h3:=(ku n (i+1)).1;simp only [↓wR,zV,simprocAttr,hc];refine ⟨i+1,zO,zO,?_⟩;rw [h2];simp only [List.cons.injEq,and_true,true_and,AV.sc.injEq,Value.int.injEq];refine ⟨?_,?_⟩
   ·rw [wrap_i64 ((c.size:Int)+1) zO zO,wrap_i64 _ zO zO];omega
   ·rw [wrap_i64 _ zO zO];omega
  ·have h4:i=n.length:=by simp at h;omega
   subst h4;simp only [↓wR,zV,simprocAttr,zz7]
noncomputable def D3 (x:Name × Unit):Option AV:=if br x.1<17592186044416 then some ((r1 (bh .i64)).E true ((br x.1:Int))) else none
theorem aca (x:Name × Unit) (r:AV) (h:D3 x=some r):bo PP 129 ((aC au a0).E x) r:=by obtain ⟨hc,rfl⟩:=zI h;exact bf (ak.nil PP) Tryz.func129 zK zK zK zL (r1 (bh .i64)) true ((br x.1:Int)) (aom x.1 hc)
noncomputable abbrev ayf:Nat × Bool × (List AV->M AV):=(129,true,dg (aC au a0) D3)
def u5 (n:Name):Bool:=n.any fun s=>decide (jw s≠0)
def cg (n:Name):Int:=if u5 n then 4 else if 255<br n then 5 else 0
theorem Tc (n:Name) (i:Nat) (c:ByteArray) (h:n[i]? = some c):u5 (n.take (i+1))=(u5 (n.take i) || decide (jw c≠0)):=by obtain ⟨hk,rfl⟩:=zg.1 h;rw [zz5 hk];simp only [u5,List.any_append,List.any_cons,List.any_nil,Bool.or_false]
theorem Sb (n:Name) (i:Nat) (c:ByteArray) (h:n[i]? = some c) (hc:jw c≠0):u5 n=true:=by simp only [u5,List.any_eq_true];exact ⟨c,zm h,by simp [hc]⟩
theorem ain (s:ByteArray):jw s=0\/jw s=4:=by unfold jw;split<;>simp
theorem aj4 (n:Name) (hn:br n<17592186044416):wl PP [ava,ayf] 0 (Tryz.f76.body.getD .skip) (di PP Tryz.f76.results.toList (fun r st=>(r1 (bh .i64)).get true st.h r=some (cg n))) (cj 0 [au.val false n]) (ay []):=by
 unfold Tryz.f76;rw [cr];simp only [↓wR,zV,simprocAttr];refine da [0,6,7,8] (fun (x:Nat)=>[.vl false 1 (n.map (ah.val false)),.vl false 1 (n.map (ah.val false)),.sc (.int .i64 n.length),.sc (.int .i64 x)]) (fun _=>[]) (fun x=>x<=n.length/\u5 (n.take x)=false) (fun x=>n.length - x) 0 ⟨zzb _,by simp [u5]⟩ ?_ ?_ ?_
 ·simp only [↓wR,zV,simprocAttr]<;>rfl
 ·simp only [↓wR,zV,simprocAttr]
 ·rintro i ⟨hi,hb⟩;have h1:=ku n i;simp only [↓wR,zV,simprocAttr];rw [dv];refine ⟨fun h=>?_,fun h=>?_⟩
  ·have h4:i<n.length:=by simp at h;omega
   obtain ⟨c,hc⟩:∃ c,n[i]? = some c:=⟨n[i],by simp [h4]⟩;simp only [↓wR,zV,simprocAttr,hc,Me];rw [dv];refine ⟨fun h=>?_,fun h=>?_⟩
   ·have h5:jw c≠0:=by simpa using h
    have h6:jw c=4:=(ain c).resolve_left h5;simp only [↓wR,zV,simprocAttr,cg,Sb n i c hc h5,h6]
   ·have h5:jw c=0:=by simpa using h
    simp only [↓wR,zV,simprocAttr];refine ⟨i+1,⟨zO,by rw [Tc n i c hc,hb];simp [h5]⟩,zO,?_⟩;simp only [List.cons.injEq,and_true,true_and,AV.sc.injEq,Value.int.injEq];rw [wrap_i64 _ zO zO];omega
  ·have h4:i=n.length:=by simp at h;omega
   subst h4;rw [zz7] at hb;simp only [↓wR,zV,simprocAttr,D3,hn];rw [dv];refine ⟨fun h=>?_,fun h=>?_⟩
   ·have h5 : 255<br n:=by simp at h;omega
    simp only [↓wR,zV,simprocAttr,cg,hb,h5]
   ·have h5:¬ 255<br n:=by simp at h;omega
    simp only [↓wR,zV,simprocAttr,cg,hb,h5]
noncomputable def j7 (x:Name × Unit):Option AV:=if br x.1<17592186044416 then some ((r1 (bh .i64)).E true (cg x.1)) else none
theorem u7 (x:Name × Unit) (r:AV) (h:j7 x=some r):bo PP 76 ((aC au a0).E x) r:=by obtain ⟨hc,rfl⟩:=zI h;exact bf (ak.cons (aq aai) (ak.cons (aq aca) (ak.nil PP))) Tryz.func76 zK zK zK zL (r1 (bh .i64)) true (cg x.1) (aj4 x.1 hc)
noncomputable abbrev fh:Nat × Bool × (List AV->M AV):=(76,true,dg (aC au a0) j7)
def low (c:UInt8):UInt8:=if 65<=c/\c<=90 then c+32 else c
def fold (s:ByteArray):ByteArray:=⟨(s.data.toList.map low).toArray⟩
def sf (l:List UInt8) (i:Nat):List UInt8:=(l.take i).map low++l.drop i
theorem awb (l:List UInt8) (i:Nat):(sf l i).length=l.length:=by simp [sf];omega
theorem af0 (l:List UInt8) (i:Nat) (h:i<l.length):(sf l i)[i]? = l[i]? := by simp [sf,List.getElem?_append,Nat.min_eq_left (Nat.le_of_lt h)]
theorem adw (l:List UInt8) (i:Nat) (h:i<l.length):(sf l i).take i++[low l[i]]++(sf l i).drop (i+1)=sf l (i+1):=by
 have h1:((l.take i).map low).length=i:=by simp;omega
 have h2:(sf l i).take i=(l.take i).map low:=by rw [sf,List.take_append_of_le_length zO,zzp zO]
 have h3:(sf l i).drop (i+1)=l.drop (i+1):=by rw [sf,List.drop_append,zzx zO,h1];simp
 rw [h2,h3,sf,zz5 h,zzw];rfl
theorem Zi (l:List UInt8) (i:Nat) (h:i<l.length) (hk:low l[i]=l[i]):sf l i=sf l (i+1):=by
 rw [<- adw l i h,hk];have:(sf l i)[i]? = some l[i]:=by rw [af0 l i h];simp [h]
 obtain ⟨hlt,e⟩:=zg.1 this;rw [<- e,<- zz5 hlt,zzm]
theorem ah5 (s:ByteArray) (hs:s.size<=16777216):wl PP [] 0 (Tryz.f191.body.getD .skip) (di PP Tryz.f191.results.toList (fun r st=>(r1 ah).get true st.h r=some (fold s))) (cj 0 [ah.val false s]) (ay []):=by
 unfold Tryz.f191;have hl:s.data.toList.length=s.size:=by simp
 simp only [↓wR,zV,simprocAttr,hs];refine da [3,8,9,10] (fun (x:Nat)=>[.sl 0 0 s.size 1,.sl 0 0 s.size 1,.sc (.int .i64 s.size),.sc (.int .i64 x)]) (fun x=>[some (.row ((sf s.data.toList x).map (bt.val false)) 0 1 5)]) (fun x=>x<=s.size) (fun x=>s.size - x) 0 (zzb _) ?_ ?_ ?_
 ·simp only [↓wR,zV,simprocAttr]<;>rfl
 ·simp only [↓wR,zV,simprocAttr]<;>rfl
 ·intro i hi;simp only [↓wR,zV,simprocAttr];rw [dv];refine ⟨fun h=>?_,fun h=>?_⟩
  ·have h4:i<s.size:=by simp at h;omega
   have h6:i<s.data.toList.length:=zO;have h5:(sf s.data.toList i)[i]? = some s.data.toList[i]:=by rw [af0 s.data.toList i h6];simp [h6]
   obtain ⟨c,hc⟩:∃ c,s.data.toList[i]=c:=⟨_,rfl⟩;have hcl:=c.toNat_lt;rw [hc] at h5;simp only [↓wR,zV,simprocAttr,h4,h5];rw [dv];refine ⟨fun h1=>?_,fun h1=>?_⟩
   ·simp only [↓wR,zV,simprocAttr,h1];rw [dv];refine ⟨fun h2=>?_,fun h2=>?_⟩
    ·have h7:i+1<=s.size:=zO;have bJ:low c=c+32:=by
      simp at h1 h2;have a1 : 65<=c:=by rw [UInt8.le_iff_toNat_le];simp;omega
      have a2:c<=90:=by rw [UInt8.le_iff_toNat_le];simp;omega
      simp [low,a1,a2]
     have hw:IntKind.u8.wrap (IntKind.u8.wrap ((c.toNat:Int)+97) - 65)=((low c).toNat:Int):=by simp at h1 h2;rw [bJ];simp [IntKind.wrap,IntKind.bits,IntKind.signed,UInt8.toNat_add];omega
     have hst:List.map (bt.val false) (List.take i (sf s.data.toList i))++[AV.sc (Value.int IntKind.u8 ((low c).toNat:Int))]++List.map (bt.val false) (List.drop (i+1) (sf s.data.toList i))=List.map (bt.val false) (sf s.data.toList (i+1)):=by rw [<- adw s.data.toList i h6,hc,zzw,zzw];rfl
     simp only [↓wR,zV,simprocAttr,h4,h7,awb,hl,hw,hst];refine ⟨i+1,h7,zO,?_,rfl⟩;rw [wrap_i64 _ zO zO];rfl
    ·simp only [↓wR,zV,simprocAttr];have hk:low c=c:=by
      simp at h2;have a2:¬ c<=90:=by rw [UInt8.le_iff_toNat_le];simp;omega
      simp [low,a2]
     refine ⟨i+1,zO,zO,?_,?_⟩
     ·rw [wrap_i64 _ zO zO];rfl
     ·rw [Zi s.data.toList i h6 (by rw [hc];exact hk)]
   ·simp only [↓wR,zV,simprocAttr,h1];have hk:low c=c:=by
     simp at h1;have a2:¬ 65<=c:=by rw [UInt8.le_iff_toNat_le];simp;omega
     simp [low,a2]
    refine ⟨i+1,zO,zO,?_,?_⟩
    ·rw [wrap_i64 _ zO zO];rfl
    ·rw [Zi s.data.toList i h6 (by rw [hc];exact hk)]
  ·have h4:i=s.size:=by simp at h;omega
   subst h4;have:∃ m,List.map low s.data.toList=m:=⟨_,rfl⟩;obtain ⟨m,hm⟩:=this;have h5:sf s.data.toList s.size=m:=by rw [sf,zzp (Nat.le_of_eq hl),zzx (Nat.le_of_eq hl),zzn,hm]
   have wD:m.length=s.size:=by rw [<- hm,zzo,hl]
   have h6:List.take s.size (List.map (bt.val false) m)=List.map (bt.val false) m:=zzp (by rw [zzo,wD];exact zza _);have hf:fold s=⟨m.toArray⟩:=by rw [fold,hm]
   rw [h5,hf];simp only [↓wR,zV,simprocAttr,wD,h6]
noncomputable def yx (x:ByteArray × Unit):Option AV:=if x.1.size<=16777216 then some ((r1 ah).E true (fold x.1)) else none
theorem Fg (x:ByteArray × Unit) (r:AV) (h:yx x=some r):bo PP 191 ((aC ah a0).E x) r:=by obtain ⟨hc,rfl⟩:=zI h;exact bf (ak.nil PP) Tryz.func191 zK zK zK zL (r1 ah) true (fold x.1) (ah5 x.1 hc)
noncomputable abbrev Qt:Nat × Bool × (List AV->M AV):=(191,true,dg (aC ah a0) yx)
theorem alv (a b:ByteArray) (ha:a.size<=16777216) (hb:b.size<=16777216):wl PP [Qt] 0 (Tryz.f177.body.getD .skip) (di PP Tryz.f177.results.toList (fun r st=>(r1 bq).get true st.h r=some (decide (fold a=fold b)))) (cj 0 [ah.val false a,ah.val false b]) (ay []):=by unfold Tryz.f177;simp only [↓wR,zV,simprocAttr,yx,ha,hb]
noncomputable def Dv (x:ByteArray × ByteArray × Unit):Option AV:=if x.1.size<=16777216/\x.2.1.size<=16777216 then some ((r1 bq).E true (decide (fold x.1=fold x.2.1))) else none
theorem ab8 (x:ByteArray × ByteArray × Unit) (r:AV) (h:Dv x=some r):bo PP 177 ((aC ah (aC ah a0)).E x) r:=by obtain ⟨hc,rfl⟩:=zI h;exact bf (ak.cons (aq Fg) (ak.nil PP)) Tryz.func177 zK zK zK zL (r1 bq) true (decide (fold x.1=fold x.2.1)) (alv x.1 x.2.1 hc.1 hc.2)
noncomputable abbrev azf:Nat × Bool × (List AV->M AV):=(177,true,dg (aC ah (aC ah a0)) Dv)
end Go.Proofs.YtjagjbceegbaiaaGreat
end
section
namespace Go.Proofs.YtjagjbceegbaiaaGreat
open Go.Vm Go.RowKit
theorem aJg {x:Value} (h:qy x = .str):∃ s,x = .string s:=by cases x<;>first|exact ⟨_,rfl⟩|cases h
theorem Yl {x:Value} {k:IntKind} (h:qy x = .int k):∃ i,x = .int k i:=by cases x<;>first|(cases h;exact ⟨_,rfl⟩)|cases h
theorem Te:Tryz.f17.ntmps=22:=rfl
set_option maxHeartbeats 1600000 in
theorem Cl {S:Nat->Prop} {M:Nat} {v:Value} {w:World} (hM:M<9223372036854775807) (hv:rz S M w .str v) :
 Calls PP 17 #[v] w (fun e w'=>∃ r,e = .returned r/\kx S 1 false w w'):=by
 rcases hv with ⟨a,rfl⟩|⟨b,off,n,cap,cs,e,rfl,h1,⟨h2,hcm⟩,h3,h4,h5,h6⟩
 ·go_enter Tryz.func17,Te
  cases a with
  |none=>
   go_wp2
   refine wp_loop_rounds 1 ?_;rw [rounds_succ]
   go_wp2
   go_end0
   exact ⟨_,rfl,.refl _ _ _ _⟩
  |some a=>
   go_wp2
   refine wp_loop_rounds 1 ?_;rw [rounds_succ]
   go_wp2
   go_end0
   exact ⟨_,rfl,.refl _ _ _ _⟩
 unfold maxLen at hcm
 go_enter Tryz.func17,Te
 go_wp2
 go_loopw [3] (fun i wr=>∃ k:Nat,k<=cap/\i = .int .i64 k/\Lp w b cs e off 1 k wr)
  (fun i _=>cap - (RowKit.intOf i).toNat)
 case atStart=>exact ⟨0,zzb _,rfl,.start h3⟩
 case round=>
  obtain ⟨k,hk,rfl,hl⟩:=hrel;by_cases jE:k<cap
  ·have hlt:off+k<cs.size:=zO;obtain ⟨x,hx⟩:∃ x,cs[off+k]? = some x:=⟨_,zz3 hlt⟩;obtain ⟨q1,q2⟩:=h6 k x jE hx;obtain ⟨s,rfl⟩:=aJg q1;have hs:=hl.cell hx;have hfz:=hl.frozen (off+k);have DV:s.size+1<=9223372036854775807:=by have:=q2 s rfl;omega
   go_wp2
   go_roundw
   case rel=>exact ⟨k+1,zO,by simp,hl.step hx (by simp [qy]) rfl (fun s' e=>by cases e;exact ⟨s,rfl,by rw [ByteArray.size_append];exact zza _⟩)⟩
   case measure=>simp [RowKit.intOf];omega
  ·go_wp2
   go_end0
   exact ⟨_,rfl,hl.qn h3 h1⟩
theorem akd:Tryz.f111.ntmps=22:=rfl
set_option maxHeartbeats 1600000 in
theorem ag3 {S:Nat->Prop} {M:Nat} {v:Value} {w:World} (hv:rz S M w (.int .u8) v) :
 Calls PP 111 #[v] w (fun e w'=>∃ r,e = .returned r/\kx S 1 false w w'):=by
 obtain ⟨base,n,cap,rfl,h2,hcm,hb0⟩:=hv.form;unfold maxLen at hcm;have hst:=To.start (m:=1) hv
 go_enter Tryz.func111,akd
 go_wp2
 go_loopw [3] (fun i wr=>∃ k:Nat,k<=cap/\i = .int .i64 k/\To S 1 k w (.slice base n cap) wr)
  (fun i _=>cap - (RowKit.intOf i).toNat)
 case atStart=>exact ⟨0,zzb _,rfl,hst⟩
 case round=>
  obtain ⟨k,hk,rfl,hl⟩:=hrel;by_cases jE:k<cap
  ·obtain ⟨b,off,x,rfl,hs,hfz,q1,q2,hstep⟩:=hl.at (by decide) hv jE;obtain ⟨y,rfl⟩:=Yl q1
   go_wp2
   go_roundw
   case rel=>exact ⟨k+1,zO,by simp,hstep _ rfl (fun s' e=>by cases e)⟩
   case measure=>simp [RowKit.intOf];omega
  ·go_wp2
   go_end0
   exact ⟨_,rfl,hl.qn⟩
theorem aon:Tryz.f64.ntmps=44:=rfl
set_option maxHeartbeats 1600000 in
theorem ane {S:Nat->Prop} {Nn M:Nat} {va vb vc vd:Value} {w:World} (nI : 4<=M) (hM:M+(Nn+3)<9223372036854775807) (hS:∀ b,w.heap.size<=b->S b) (hv:T3 S Nn M w [va,vb,vc,vd]) :
 Calls PP 64 #[.agg #[va,vb,vc,vd]] w (fun e w'=>∃ r,e = .returned r/\kx S (Nn+3) false w w'):=by
 obtain ⟨_,_,_,_,he,ha,hb,hc,hd⟩:=hv;cases he;have eA:kx S 0 false w (w.alloc (.cells #[va,vb,vc,vd] 116)):=kx.alloc _;obtain ⟨bn,an,cn,rfl,CR,CQ,vA,CP⟩:=ha.form;obtain ⟨bm,am,cm,rfl,EI,CS,EH⟩:=hb.form;unfold maxLen at vA CS;have dI:(w.alloc (.cells #[Value.slice bn an cn,.slice bm am cm,vc,vd] 116)).heap[w.heap.size]? = some (.cells #[Value.slice bn an cn,.slice bm am cm,vc,vd] 116 (0,0)):=Fc _ _;have cell:∀ {m:Nat} {wr:World},kx S m false (w.alloc (.cells #[Value.slice bn an cn,.slice bm am cm,vc,vd] 116)) wr->wr.cell? ⟨w.heap.size,0,none⟩=some (.slice bn an cn)/\wr.cell? ⟨w.heap.size,1,none⟩=some (.slice bm am cm)/\wr.cell? ⟨w.heap.size,2,none⟩=some vc/\wr.cell? ⟨w.heap.size,3,none⟩=some vd:=by intro m wr h;refine ⟨h.stay (by rw [kz dI];rfl) rfl,h.stay (by rw [kz dI];rfl) rfl,h.stay (by rw [kz dI];rfl) hc.slice,h.stay (by rw [kz dI];rfl) hd.slice⟩
 go_enter Tryz.func64,aon
 go_wp2
 go_loopw [2] (fun i wr=>∃ k:Nat,k<=an/\i = .int .i64 k/\kx S k false (w.alloc (.cells #[Value.slice bn an cn,.slice bm am cm,vc,vd] 116)) wr)
  (fun i _=>an - (RowKit.intOf i).toNat)
 case atStart=>exact ⟨0,zzb _,rfl,.refl _ _ _ _⟩
 case round=>
  obtain ⟨k,hk,rfl,ho⟩:=hrel;obtain ⟨c0,c1,c2,c3⟩:=cell ho;by_cases jE:k<an
  ·have hn:=aga nI (eA.trans ho) ha;obtain ⟨b,off,cs,e,rfl,e1,e2,e3,e4,e5,e6,v,e7,e8⟩:=hn.at jE;have h9:cs.getD (off+k) undef=v:=by simpa using e7
   have hx:wr.cell? ⟨b,off+k,none⟩=some v:=by rw [<- h9];exact cell_of e2 zO
   go_wp2
   refine (Cl zO e8).mono ?_;rintro ex w2 ⟨r,rfl,gH⟩
   go_wp2
   go_roundw
   case rel=>exact ⟨k+1,jE,by simp,ho.trans gH⟩
   case measure=>simp [RowKit.intOf];omega
  ·go_wp2
   have jI:=(hb.qn (by decide) (eA.trans ho)).mono (M':=M+Nn) zO;have hst:=To.start (m:=1) jI
   go_loopw [4] (fun i w2=>∃ q:Nat,q<=cm/\i = .int .i64 q/\To S 1 q wr (.slice bm am cm) w2)
    (fun i _=>cm - (RowKit.intOf i).toNat)
   case atStart=>exact ⟨0,zzb _,rfl,hst⟩
   case round=>
    obtain ⟨q,hq,rfl,hl⟩:=hrel;by_cases rE:q<cm
    ·obtain ⟨b,off,x,rfl,hs,hfz,q1,q2,hstep⟩:=hl.at (by decide) jI rE;obtain ⟨y,rfl⟩:=Yl q1
     go_wp2
     go_roundw
     case rel=>exact ⟨q+1,zO,by simp,hstep _ rfl (fun s' e=>by cases e)⟩
     case measure=>simp [RowKit.intOf];omega
    ·have ho2:=hl.qn;obtain ⟨d0,d1,d2,d3⟩:=cell (ho.trans ho2)
     go_wp2
     have h3:=(eA.trans ho).trans ho2;refine (Cl (M:=M+(0+k+1)) zO (hc.qn (by decide) h3)).mono ?_;rintro ex w2 ⟨r,rfl,gH⟩;obtain ⟨f0,f1,f2,f3⟩:=cell ((ho.trans ho2).trans gH)
     go_wp2
     refine (ag3 (hd.qn (by decide) (h3.trans gH))).mono ?_;rintro ex w3 ⟨r2,rfl,sQ⟩
     go_wp2
     go_end0
     exact ⟨_,rfl,((h3.trans gH).trans sQ).mono zO⟩
theorem aJc:TK.sz 9=some 1:=zK
theorem apo:Tryz.f28.ntmps=86:=rfl
set_option maxHeartbeats 3200000 in
theorem ang {S:Nat->Prop} {Nn Nd N M:Nat} {v:Value} {w:World} (nI : 4<=M) (hM:M+N * (1+Nd * (Nn+3))+(Nn+3)<9223372036854775807) (hS:∀ b,w.heap.size<=b->S b) (hv:qw S N w 5 (Q4 S Nn Nd M) v) :
 Calls PP 28 #[v] w (fun e w'=>∃ r,e = .returned r/\kx S (N * (1+Nd * (Nn+3))) true w w'):=by
 obtain ⟨bn,an,cn,rfl,CR,CQ,vA,CP⟩:=hv.form;unfold maxLen at vA
 go_enter Tryz.func28,apo
 go_wp2
 go_loopw [2] (fun i wr=>∃ k:Nat,k<=an/\i = .int .i64 k/\kx S (k * (1+Nd * (Nn+3))) true w wr)
  (fun i _=>an - (RowKit.intOf i).toNat)
 case atStart=>exact ⟨0,zzb _,rfl,(kx.refl _ _ _ _)⟩
 case round=>
  obtain ⟨k,hk,rfl,ho⟩:=hrel;by_cases jE:k<an
  ·have hn:=Jg nI ho hv;obtain ⟨b,off,cs,e,rfl,e1,e2,e3,e4,e5,e6,o,ty,cl,u,d,e7,e8,e9,jB,e11,uY⟩:=hn.at jE;simp only [show List.range 5=[0,1,2,3,4] from rfl,List.map_cons,List.map_nil,List.cons.injEq,and_true,Nat.add_zero] at e7;obtain ⟨g0,g1,g2,g3,g4⟩:=e7;have c0:wr.cell? ⟨b,off+k * 5,none⟩=some o:=by rw [<- g0];exact cell_of e2 zO
   have c4:wr.cell? ⟨b,off+k * 5+4,none⟩=some d:=by rw [<- g4];exact cell_of e2 zO
   go_wp2
   refine (Cl (M:=M+k * (1+Nd * (Nn+3))) (by have:=zz4 (1+Nd * (Nn+3)) (show k<=N by omega);omega) e8).mono ?_;rintro ex w2 ⟨r,rfl,gH⟩;obtain ⟨bd,dn,dc,rfl,d1,d2,d3,d4⟩:=uY.form;unfold maxLen at d3;have hsz:w.heap.size<=w2.heap.size:=zzu ho.size gH.size;have f4:w2.cell? ⟨b,off+k * 5+4,none⟩=some (.slice bd dn dc):=gH.stay c4 rfl
   go_wp2
   go_loopw [3] (fun i wr2=>∃ q:Nat,q<=dn/\i = .int .i64 q/\kx S (q * (Nn+3)) false w2 wr2)
    (fun i _=>dn - (RowKit.intOf i).toNat)
   case atStart=>exact ⟨0,zzb _,rfl,(kx.refl _ _ _ _)⟩
   case round=>
    obtain ⟨q,hq,rfl,ho2⟩:=hrel;have f5:=ho2.stay f4 rfl;by_cases rE:q<dn
    ·have mM:=Td zO (gH.trans ho2) uY;obtain ⟨b2,dM,kX,CG,rfl,p1,p2,p3,p4,p5,p6,p7⟩:=mM.at rE;obtain ⟨x0,x1,x2,x3,p8,p9⟩:=id p7;simp only [show List.range 4=[0,1,2,3] from rfl,List.map_cons,List.map_nil,List.cons.injEq,and_true,Nat.add_zero] at p8;obtain ⟨q0,q1,q2,q3⟩:=p8;have i0:wr.cell? ⟨b2,dM+q * 4,none⟩=some x0:=by rw [<- q0];exact cell_of p2 zO
     have i1:wr.cell? ⟨b2,dM+q * 4+1,none⟩=some x1:=by rw [<- q1];exact cell_of p2 zO
     have i2:wr.cell? ⟨b2,dM+q * 4+2,none⟩=some x2:=by rw [<- q2];exact cell_of p2 zO
     have i3:wr.cell? ⟨b2,dM+q * 4+3,none⟩=some x3:=by rw [<- q3];exact cell_of p2 zO
     have eN:k * (1+Nd * (Nn+3))+(1+Nd * (Nn+3))<=N * (1+Nd * (Nn+3)):=by rw [<- Nat.succ_mul];exact zz4 _ zO
     have mZ:q * (Nn+3)+(Nn+3)<=Nd * (Nn+3):=by rw [<- Nat.succ_mul];exact zz4 _ zO
     go_wp2
     refine (ane (M:=M+k * (1+Nd * (Nn+3))+(1+q * (Nn+3))) zO zO (fun b hb=>hS b (by have:=ho2.size;omega)) ⟨x0,x1,x2,x3,rfl,p9⟩).mono ?_;rintro ex w3 ⟨r3,rfl,lT⟩
     go_wp2
     go_roundw
     case rel=>exact ⟨q+1,rE,by simp,by rw [Nat.succ_mul];exact ho2.trans lT⟩
     case measure=>simp [RowKit.intOf];omega
    ·go_wp2
     go_region
     go_wp2
     have mZ:q=dn:=zO;subst mZ;have h3:=gH.trans ho2
     go_loopw [5] (fun i xL=>∃ p:Nat,q<=p/\(p<=dc\/p=q)/\i = .int .i64 p/\kx S 0 true wr xL)
      (fun i _=>dc - (RowKit.intOf i).toNat)
     case atStart=>exact ⟨q,zza _,.inr rfl,rfl,kx.quiet _ _ _ (zza _) rfl rfl rfl (fun _ _=>rfl)⟩
     case round=>
      obtain ⟨p,eU,oX,rfl,rF⟩:=hrel;by_cases yZ:p<dc
      ·have wI:=Td (xx:=true) zO (h3.any.trans rF) uY;obtain ⟨b2,dM,kX,CG,rfl,p1,p2,p3,p4,p5,p6⟩:=wI.room yZ;have hfz:=al5 p2;have m0:=fun o=>If p2 o (j:=dM+p * 4) zO
       have m1:=fun o=>If p2 o (j:=dM+p * 4+1) zO
       have m2:=fun o=>If p2 o (j:=dM+p * 4+2) zO
       have m3:=fun o=>If p2 o (j:=dM+p * 4+3) zO
       go_wp2
       go_roundw
       case rel=>exact ⟨p+1,zO,.inl zO,by simp,rF.trans (kx.spare p2 p1 p3 (hS _ (by have:=rF.size;have:=ho2.size;omega)) zO aJc (by decide))⟩
       case measure=>simp [RowKit.intOf];omega
      ·have ht:=(ho.trans h3.any).trans rF;obtain ⟨b',cT,cs',e',he',y1,y2,y3,y4,y5,y6,o',ty',CN,u',d',y7,y8,y9,DG,xK,DF⟩:=(Jg nI ht hv).at jE;cases he';simp only [show List.range 5=[0,1,2,3,4] from rfl,List.map_cons,List.map_nil,List.cons.injEq,and_true,Nat.add_zero] at y7;obtain ⟨z0,vH,z2,vG,z4⟩:=y7;have l1:wr.cell? ⟨b,off+k * 5+1,none⟩=some ty':=by rw [<- vH];exact cell_of y2 zO
       have l3:wr.cell? ⟨b,off+k * 5+3,none⟩=some u':=by rw [<- vG];exact cell_of y2 zO
       have z1:=Sz y2 (off+k * 5+1);have z3:=Sz y2 (off+k * 5+3);obtain ⟨i1,rfl⟩:=Yl y9;obtain ⟨i3,rfl⟩:=Yl xK
       go_wp2
       have hs3:=kx.set (v:=.int .u32 (bits BinOp.xor .u32 i3 77)) y2 y1 (j:=off+k * 5+3) (x:=.int .u32 i3) (by rw [<- vG,zze,zz3 zO];rfl) (by intro q;cases q) rfl (fun s q=>by cases q);have hs1:=kx.set (v:=.int .u16 (bits BinOp.xor .u16 i1 77)) hs3.2 y1 (j:=off+k * 5+1) (x:=.int .u16 i1) (by rw [zzz,if_neg zO,<- vH,zze,zz3 zO];rfl) (by intro q;cases q) rfl (fun s q=>by cases q);have oV:q * (Nn+3)<=Nd * (Nn+3):=zz4 _ d1
       go_roundw
       case rel=>exact ⟨k+1,jE,by simp,by rw [Nat.succ_mul];exact ((ht.trans (hs3.1.trans hs1.1).any)).mono zO⟩
       case measure=>simp [RowKit.intOf];omega
  ·go_wp2
   go_end0
   exact ⟨_,rfl,ho.mono (zz4 _ zO)⟩
theorem aps:Tryz.f37.ntmps=8:=rfl
theorem ap6:TK.sz 26=some 2:=zK
set_option maxHeartbeats 3200000 in
theorem ahu {S:Nat->Prop} {Nn Nd N M:Nat} {va vb:Value} {w:World} (nI : 4<=M) (hM:M+1+N * (1+Nd * (Nn+3))+(Nn+3)<9223372036854775807) (hS:∀ b,w.heap.size<=b->S b) (ha:rz S M w .str va) (hb:qw S N w 5 (Q4 S Nn Nd M) vb) :
 Calls PP 37 #[.agg #[va,vb]] w (fun e w'=>∃ r,e = .returned r/\kx S (1+N * (1+Nd * (Nn+3))) true w w'):=by
 have eA:kx S 0 false w (w.alloc (.cells #[va,vb] 26)):=kx.alloc _;have dI:(w.alloc (.cells #[va,vb] 26)).heap[w.heap.size]? = some (.cells #[va,vb] 26 (0,0)):=Fc _ _
 go_enter Tryz.func37,aps
 go_wp2
 refine (Cl (M:=M+0) zO (ha.qn (by decide) eA)).mono ?_;rintro ex w2 ⟨r,rfl,gH⟩;have c1:=gH.aKo dI ap6 (by decide) (j:=1) rfl hb.slice;have h2:=eA.trans gH
 go_wp2
 refine (ang (M:=M+(0+1)) zO zO (fun b hb=>hS b (by have:=h2.size;omega)) (Jg nI h2 hb)).mono ?_;rintro ex w3 ⟨r3,rfl,lT⟩
 go_wp2
 go_end0
 exact ⟨_,rfl,((h2.any.trans lT)).mono zO⟩
end Go.Proofs.YtjagjbceegbaiaaGreat
end
section
namespace Go.Proofs.YtjagjbceegbaiaaGreat
open Go.Vm
def gw:List ByteArray->List ByteArray->Nat
 |a::r,b::q=>if fold a=fold b then gw r q+1 else 0
 |_,_=>0
theorem Wm (l:List ByteArray):gw l []=0:=by cases l<;>rfl
def common (a b:Name):Nat:=gw a.reverse b.reverse
theorem Pb {l:List ByteArray} {x:Nat} {c:ByteArray} (h:x<l.length) (hc:l[l.length - 1 - x]? = some c):l.reverse.drop x=c::l.reverse.drop (x+1):=by
 have h1:l.reverse[x]? = some c:=by rw [List.getElem?_reverse h];exact hc
 obtain ⟨h2,h3⟩:=zg.1 h1;rw [<- h3];exact zzs h2
theorem agf (a b:Name) (ha:∀ s ∈ a,s.size<=16777216) (hb:∀ s ∈ b,s.size<=16777216) (mD:a.length<17592186044416) (fC:b.length<17592186044416):wl PP [azf] 0 (Tryz.f130.body.getD .skip) (di PP Tryz.f130.results.toList (fun r st=>(r1 (bh .i64)).get true st.h r=some (common a b:Int))) (cj 0 [au.val false a,au.val false b]) (ay []):=by
 unfold Tryz.f130;simp only [cr];simp only [↓wR,zV,simprocAttr];refine cb (T:=[]) (ak.nil PP) mixed Tryz.func176 rfl zK zK zK zK ?_;unfold Tryz.f176;simp only [↓wR,zV,simprocAttr];refine ⟨[2,3,4,5,10],?_⟩;have hib:Gs PP 201=some (Tryz.f201.ntmps,Tryz.f201.body.getD .skip):=zK;simp only [↓wR,zV,simprocAttr,hib];refine ⟨zK,fun l=>?_⟩;unfold Tryz.f201;simp only [↓wR,zV,simprocAttr];refine Li [0,1,3] (fun (x:Nat)=>[.sc (.func (.yield l) #[] #[]),.ptr 4 0,.sc (.int .i64 ((a.length:Int) - 1 - x))]) (fun x=>[some (.row [.vl false 1 (a.map (ah.val false))] 0 2 23),some (.row [.vl false 1 (b.map (ah.val false))] 0 2 23),some (.row [.sc (.int .i64 0)] 0 2 3),some (.row [.sc (.int .i64 x)] 0 2 3),some (.row [.vl false 1 (a.map (ah.val false))] 0 2 23)]) (fun x=>x<=a.length/\common a b=x+gw (a.reverse.drop x) (b.reverse.drop x)) (fun x=>a.length - x) 0 ⟨zzb _,by simp [common]⟩ ?_ ?_ ?_
 ·simp only [↓wR,zV,simprocAttr];simp;rw [wrap_i64 _ zO zO]
 ·simp only [↓wR,zV,simprocAttr]<;>rfl
 rintro x ⟨hx,hR⟩;simp only [↓wR,zV,simprocAttr];rw [Bo];refine ⟨fun h=>?_,fun h=>?_⟩
 ·have hx':x<a.length:=by simp at h;omega
  obtain ⟨c,hc⟩:∃ c,a[a.length - 1 - x]? = some c:=⟨_,zh zO⟩;have e:((a.length:Int) - 1 - x).toNat=a.length - 1 - x:=zO;have e2:(0:Int)<=(a.length:Int) - 1 - x:=zO;simp only [↓wR,zV,simprocAttr,e,hc,e2];refine E2 [0,1,3,12,16] ?_;simp only [↓wR,zV,simprocAttr,E6,sm,hc];simp (disch:=omega) only [zW];rw [dv];refine ⟨fun h1=>?_,fun h1=>?_⟩
  ·have hb0:b.length<=x:=by simp at h1;omega
   have hb1:b.reverse.drop x=[]:=zzx (by simpa using hb0);rw [hb1,Wm] at hR;simp only [↓wR,zV,simprocAttr,h1];rw [hR,Nat.add_zero]
  ·have hb0:x<b.length:=by simp at h1;omega
   obtain ⟨d,hd⟩:∃ d,b[b.length - 1 - x]? = some d:=⟨_,zh zO⟩;have e4:((b.length:Int) - ((a.length:Int) - ((a.length:Int) - 1 - x))).toNat=b.length - 1 - x:=zO;have e5:(0:Int)<=(b.length:Int) - ((a.length:Int) - ((a.length:Int) - 1 - x)):=zO;simp only [↓wR,zV,simprocAttr,h1,hd,e4,e5,Dv,ha c (zm hc),hb d (zm hd)];rw [Pb hx' hc,Pb hb0 hd,gw] at hR;rw [dv];refine ⟨fun h2=>?_,fun h2=>?_⟩
   ·have h3:¬ fold c=fold d:=by simpa using h2
    rw [if_neg h3] at hR;simp only [↓wR,zV,simprocAttr,h2];rw [hR,Nat.add_zero]
   ·have h3:fold c=fold d:=by simpa using h2
    rw [if_pos h3] at hR;simp only [↓wR,zV,simprocAttr,h2];refine ⟨x+1,⟨zO,zO⟩,zO,?_,?_⟩
    ·simp only [List.cons.injEq,and_true,true_and,AV.sc.injEq,Value.int.injEq];simp (disch:=omega) only [zW];omega
    ·simp (disch:=omega) only [zW];rfl
 ·have h4:x=a.length:=by simp at h;omega
  have h5:a.reverse.drop x=[]:=zzx (by simp;omega);rw [h5,gw] at hR;simp only [↓wR,zV,simprocAttr,h];rw [hR,Nat.add_zero]
  all_goals simp
theorem ano (args:List AV):Dz PP 218 args (Cx.oh args):=
 Cx.Kb (fn:=(PP.funcs[218]?).getD default) zK zK zK zK zK args
noncomputable abbrev awz:Nat × Bool × (List AV->M AV):=(218,true,Cx.oh)
theorem axx:ak PP [awz]:=ak.cons ano (ak.nil PP)
noncomputable def An (a b:ByteArray):Int:=Lib.compareBytes a.data.toList b.data.toList
theorem U3 (a b:ByteArray):wl PP [] 0 (Tryz.f211.body.getD .skip) (di PP Tryz.f211.results.toList (fun r st=>(r1 (bh .i64)).get true st.h r=some (An a b))) (cj 0 [ah.val false a,ah.val false b]) (ay []):=by unfold Tryz.f211;simp only [↓wR,zV,simprocAttr];refine cb (T:=[awz]) axx mixed Tryz.func215 rfl zK zK zK zK ?_;unfold Tryz.f215;simp only [↓wR,zV,simprocAttr,An]
noncomputable def Er (x:ByteArray × ByteArray × Unit):Option AV:=some ((r1 (bh .i64)).E true (An x.1 x.2.1))
theorem Qo (x:ByteArray × ByteArray × Unit) (r:AV) (h:Er x=some r):bo PP 211 ((aC ah (aC ah a0)).E x) r:=by cases h;exact bf (ak.nil PP) Tryz.func211 zK zK zK zL (r1 (bh .i64)) true (An x.1 x.2.1) (U3 x.1 x.2.1)
noncomputable abbrev abv:Nat × Bool × (List AV->M AV):=(211,true,dg (aC ah (aC ah a0)) Er)
theorem Xt (a b:ByteArray) (ha:a.size<=16777216) (hb:b.size<=16777216):wl PP [Qt,abv] 0 (Tryz.f195.body.getD .skip) (di PP Tryz.f195.results.toList (fun r st=>(r1 (bh .i64)).get true st.h r=some (An (fold a) (fold b)))) (cj 0 [ah.val false a,ah.val false b]) (ay []):=by unfold Tryz.f195;simp only [↓wR,zV,simprocAttr,yx,Er,ha,hb]
noncomputable def zl (x:ByteArray × ByteArray × Unit):Option AV:=if x.1.size<=16777216/\x.2.1.size<=16777216 then some ((r1 (bh .i64)).E true (An (fold x.1) (fold x.2.1))) else none
theorem U0 (x:ByteArray × ByteArray × Unit) (r:AV) (h:zl x=some r):bo PP 195 ((aC ah (aC ah a0)).E x) r:=by obtain ⟨hc,rfl⟩:=zI h;exact bf (ak.cons (aq Fg) (ak.cons (aq Qo) (ak.nil PP))) Tryz.func195 zK zK zK zL (r1 (bh .i64)) true (An (fold x.1) (fold x.2.1)) (Xt x.1 x.2.1 hc.1 hc.2)
noncomputable abbrev amh:Nat × Bool × (List AV->M AV):=(195,true,dg (aC ah (aC ah a0)) zl)
def fv (n:Name):List ByteArray:=n.map fold
def bj (n:Name):Prop:=br n<=16777216
instance (n:Name):Decidable (bj n):=inferInstanceAs (Decidable (_<=_))
theorem ama {n:Name} {s:ByteArray} (h:s ∈ n):s.size<br n:=by
 obtain ⟨a,b,rfl⟩:=List.append_of_mem h;have h1:=wu a ([s]++b);have h2:=wu [s] b;have h3:br [s]=s.size+2:=by simp [br];omega
 have h4:∀ l:Name,1<=br l:=fun l=>by have:=(ku l 0).2;omega
 have:=h4 a;have:=h4 b;simp only [List.singleton_append] at h1 h2;omega
theorem bj.label {n:Name} (h:bj n):∀ s ∈ n,s.size<=16777216:=fun s hs=>by have:=ama hs;unfold bj at h;omega
theorem bj.len {n:Name} (h:bj n):n.length<17592186044416:=by have:=(ku n 0).2;unfold bj at h;omega
theorem Ir:∀ r q:List ByteArray,gw r q<=q.length
 | [],q=>by simp [gw]
 |a::r,[]=>by simp [gw]
 |a::r,b::q=>by
  have:=Ir r q;simp only [gw,List.length_cons]
  split<;>omega
theorem Dw:∀ r q:List ByteArray,gw r q<=r.length
 | [],q=>by simp [gw]
 |a::r,[]=>by simp [gw]
 |a::r,b::q=>by
  have:=Dw r q;simp only [gw,List.length_cons]
  split<;>omega
theorem Wp:∀ r q:List ByteArray,gw r q=q.length↔q.map fold <+: r.map fold
 | [],[]=>by simp [gw]
 |a::r,[]=>by simp [gw]
 | [],b::q=>by simp [gw]
 |a::r,b::q=>by
  have:=Wp r q;simp only [gw,List.length_cons,List.map_cons,List.cons_prefix_cons];by_cases h:fold a=fold b
  ·rw [if_pos h];constructor
   ·intro h1;exact ⟨h.symm,this.1 zO⟩
   ·intro h1;have:=this.2 h1.2;omega
  ·rw [if_neg h];constructor
   ·intro h1;omega
   ·intro h1;exact (h h1.1.symm).elim
theorem El (n top:Name):common n top=top.length↔fv top <:+ fv n:=by unfold common fv;rw [<- List.length_reverse,Wp,List.map_reverse,List.map_reverse,List.reverse_prefix]
theorem Gz (a b:Name):(a.length=b.length/\common a b=a.length)↔fv a=fv b:=by
 constructor
 ·rintro ⟨h1,h2⟩;rw [h1] at h2;have:=(El a b).1 h2;exact (this.eq_of_length (by simp [fv,h1])).symm
 ·intro h;have hl:a.length=b.length:=by have:=congrArg List.length h;simpa [fv] using this
  refine ⟨hl,?_⟩;rw [hl];exact (El a b).2 (by rw [h];exact List.suffix_refl _)
def gh (a b:Name):Bool:=decide (fv a=fv b)
def jm (n top:Name):Bool:=decide (fv top <:+ fv n)
noncomputable def u2 (x:Name × Name × Unit):Option AV:=if bj x.1/\bj x.2.1 then some ((r1 (bh .i64)).E true ((common x.1 x.2.1:Int))) else none
theorem Dr (x:Name × Name × Unit) (r:AV) (h:u2 x=some r):bo PP 130 ((aC au (aC au a0)).E x) r:=by obtain ⟨hc,rfl⟩:=zI h;exact bf (ak.cons (aq ab8) (ak.nil PP)) Tryz.func130 zK zK zK zL (r1 (bh .i64)) true ((common x.1 x.2.1:Int)) (agf x.1 x.2.1 hc.1.label hc.2.label hc.1.len hc.2.len)
noncomputable abbrev Oq:Nat × Bool × (List AV->M AV):=(130,true,dg (aC au (aC au a0)) u2)
theorem ai9 (n top:Name) (hn:bj n) (ht:bj top):wl PP [Oq] 0 (Tryz.f77.body.getD .skip) (di PP Tryz.f77.results.toList (fun r st=>(r1 bq).get true st.h r=some (jm n top))) (cj 0 [au.val false n,au.val false top]) (ay []):=by
 unfold Tryz.f77;simp only [cr];simp only [↓wR,zV,simprocAttr,u2,hn,ht]
 congr 1
 unfold jm;have:=El n top;rw [zyc];simp [<- this];omega
noncomputable def yq (x:Name × Name × Unit):Option AV:=if bj x.1/\bj x.2.1 then some ((r1 bq).E true (jm x.1 x.2.1)) else none
theorem Ge (x:Name × Name × Unit) (r:AV) (h:yq x=some r):bo PP 77 ((aC au (aC au a0)).E x) r:=by obtain ⟨hc,rfl⟩:=zI h;exact bf (ak.cons (aq Dr) (ak.nil PP)) Tryz.func77 zK zK zK zL (r1 bq) true (jm x.1 x.2.1) (ai9 x.1 x.2.1 hc.1 hc.2)
noncomputable abbrev Sl:Nat × Bool × (List AV->M AV):=(77,true,dg (aC au (aC au a0)) yq)
theorem aok (n top:Name) (hn:bj n) (ht:bj top):wl PP [Oq] 0 (Tryz.f80.body.getD .skip) (di PP Tryz.f80.results.toList (fun r st=>(r1 bq).get true st.h r=some (gh n top))) (cj 0 [au.val false n,au.val false top]) (ay []):=by
 unfold Tryz.f80;simp only [cr];simp only [↓wR,zV,simprocAttr,u2,hn,ht];rw [dv];refine ⟨fun h=>?_,fun h=>?_⟩
 ·have hl:n.length=top.length:=by simp at h;omega
  simp only [↓wR,zV,simprocAttr,h,u2,hn,ht]
  congr 1
  unfold gh;have:=Gz n top;rw [zyc];simp [<- this,hl];omega
 ·have hl:¬ n.length=top.length:=by simp at h;omega
  simp only [↓wR,zV,simprocAttr,h];have:=Gz n top;simp [gh,<- this,hl]
noncomputable def rq (x:Name × Name × Unit):Option AV:=if bj x.1/\bj x.2.1 then some ((r1 bq).E true (gh x.1 x.2.1)) else none
theorem Aa (x:Name × Name × Unit) (r:AV) (h:rq x=some r):bo PP 80 ((aC au (aC au a0)).E x) r:=by obtain ⟨hc,rfl⟩:=zI h;exact bf (ak.cons (aq Dr) (ak.nil PP)) Tryz.func80 zK zK zK zL (r1 bq) true (gh x.1 x.2.1) (aok x.1 x.2.1 hc.1 hc.2)
noncomputable abbrev je:Nat × Bool × (List AV->M AV):=(80,true,dg (aC au (aC au a0)) rq)
noncomputable def ahh (a b:Name) (k:Nat):Int:=
 match a[a.length - 1 - k]?,b[b.length - 1 - k]? with
 |some x,some y=>An (fold x) (fold y)
 |_,_=>0
noncomputable def ry (a b:Name):Int:=
 if common a b=a.length/\common a b=b.length then 0 else if common a b=a.length then -1 else if common a b=b.length then 1 else ahh a b (common a b)
theorem acp (a b:Name) (ha:bj a) (hb:bj b):wl PP [Oq,amh] 0 (Tryz.f166.body.getD .skip) (di PP Tryz.f166.results.toList (fun r st=>(r1 (bh .i64)).get true st.h r=some (ry a b))) (cj 0 [au.val false a,au.val false b]) (ay []):=by
 unfold Tryz.f166;simp only [cr];simp only [↓wR,zV,simprocAttr,u2,ha,hb];have h1:=Dw a.reverse b.reverse;have h2:=Ir a.reverse b.reverse;rw [List.length_reverse] at h1 h2;change common a b<=a.length at h1;change common a b<=b.length at h2;obtain ⟨k,hk⟩:∃ k,common a b=k:=⟨_,rfl⟩;rw [hk] at h1 h2;unfold ry;rw [hk];rw [dv];refine ⟨fun h=>?_,fun h=>?_⟩
 ·simp only [↓wR,zV,simprocAttr,h];have hka:k=a.length:=by simp at h;omega
  rw [dv];refine ⟨fun h3=>?_,fun h3=>?_⟩
  ·have hkb:k=b.length:=by simp at h3;omega
   simp only [↓wR,zV,simprocAttr,h3];rw [if_pos ⟨hka,hkb⟩]
  ·have hkb:¬ k=b.length:=by simp at h3;omega
   simp only [↓wR,zV,simprocAttr,h3,h];rw [if_neg (fun e=>hkb e.2),if_pos hka]
 ·simp only [↓wR,zV,simprocAttr,h];have hka:¬ k=a.length:=by simp at h;omega
  rw [dv];refine ⟨fun h3=>?_,fun h3=>?_⟩
  ·have hkb:k=b.length:=by simp at h3;omega
   simp only [↓wR,zV,simprocAttr,h3];rw [if_neg (fun e=>hka e.1),if_neg hka,if_pos hkb]
  ·have hkb:¬ k=b.length:=by simp at h3;omega
   rw [if_neg (fun e=>hka e.1),if_neg hka,if_neg hkb];obtain ⟨x,hx⟩:∃ x,a[a.length - 1 - k]? = some x:=⟨_,zh zO⟩;obtain ⟨y,hy⟩:∃ y,b[b.length - 1 - k]? = some y:=⟨_,zh zO⟩;simp only [↓wR,zV,simprocAttr,h3];refine ⟨zK,.inl ?_⟩;have la:=ha.len;have lb:=hb.len;simp (disch:=omega) only [zW];have e1:(((a.length:Int) - 1) - k).toNat=a.length - 1 - k:=zO;have e2:(0:Int)<=((a.length:Int) - 1) - k:=zO;have e3:(((b.length:Int) - 1) - k).toNat=b.length - 1 - k:=zO;have e4:(0:Int)<=((b.length:Int) - 1) - k:=zO;simp only [↓wR,zV,simprocAttr,hx,e1,e2];simp (disch:=omega) only [zW];simp only [↓wR,zV,simprocAttr,hy,e3,e4,zl,ha.label x (zm hx),hb.label y (zm hy)];exact ⟨zK,by simp [ahh,hx,hy]⟩
noncomputable def xr (x:Name × Name × Unit):Option AV:=if bj x.1/\bj x.2.1 then some ((r1 (bh .i64)).E true (ry x.1 x.2.1)) else none
theorem Js (x:Name × Name × Unit) (r:AV) (h:xr x=some r):bo PP 166 ((aC au (aC au a0)).E x) r:=by obtain ⟨hc,rfl⟩:=zI h;exact bf (ak.cons (aq Dr) (ak.cons (aq U0) (ak.nil PP))) Tryz.func166 zK zK zK zL (r1 (bh .i64)) true (ry x.1 x.2.1) (acp x.1 x.2.1 hc.1 hc.2)
noncomputable abbrev V3:Nat × Bool × (List AV->M AV):=(166,true,dg (aC au (aC au a0)) xr)
theorem bj.lt {n:Name} (h:bj n):n.length<16777216:=by have:=(ku n 0).2;unfold bj at h;omega
theorem aot (n:Name) (hn:bj n):wl PP [] 0 (Tryz.f45.body.getD .skip) (di PP Tryz.f45.results.toList (fun r st=>(r1 au).get true st.h r=some n)) (cj 0 [au.val false n]) (ay []):=by
 unfold Tryz.f45;simp only [cr];have aD:n.length * 16<=140737488355328:=by have:=hn.lt;omega
 simp only [↓wR,zV,simprocAttr,aD]
noncomputable def rm (x:Name × Unit):Option AV:=if bj x.1 then some ((r1 au).E true (x.1)) else none
theorem ua (x:Name × Unit) (r:AV) (h:rm x=some r):bo PP 45 ((aC au a0).E x) r:=by obtain ⟨hc,rfl⟩:=zI h;exact bf (ak.nil PP) Tryz.func45 zK zK zK zL (r1 au) true (x.1) (aot x.1 hc)
noncomputable abbrev nc:Nat × Bool × (List AV->M AV):=(45,true,dg (aC au a0) rm)
theorem aCe {n:Name} {i:Nat} {c:ByteArray} (hc:n[i]? = some c):fv (n.drop i)=fold c::fv (n.drop (i+1)):=by rw [F9 hc];rfl
theorem ann (n:Name) (hn:bj n):wl PP [Qt] 0 (Tryz.f153.body.getD .skip) (di PP Tryz.f153.results.toList (fun r st=>(r1 au).get true st.h r=some (fv n))) (cj 0 [au.val false n]) (ay []):=by
 unfold Tryz.f153;simp only [cr];have cG:=hn.lt;simp only [↓wR,zV,simprocAttr];refine i9 [6,7,8,3] (fun (x:List ByteArray)=>[.vl false 1 (n.map (ah.val false)),.sc (.int .i64 n.length),.sc (.int .i64 x.length),.sl 0 0 x.length 1]) (fun x=>[some (.row (x.map (ah.val false)) 0 0 9)]) (fun x=>x++fv (n.drop x.length)=fv n/\x.length<=n.length) (fun x=>n.length - x.length) [] ⟨rfl,zzb _⟩ (by simp only [↓wR,zV,simprocAttr];(refine kh.lax [] (by first|exact zB rfl|(simp [cz];omega)) ?_ ?_<;>repeat' first|exact ft.nil|exact cq.nil|exact gn.same _|exact gn.nil _ _ _|exact gn.qb _ _|exact cq.refl _ _|apply ft.cons|apply cq.ghost|apply cq.same|apply cq.row)) ?_;rintro x ⟨hR,hx⟩;simp only [↓wR,zV,simprocAttr];rw [dv];refine ⟨fun h=>?_,fun h=>?_⟩
 ·obtain ⟨c,hc,hd,hlt⟩:=fi h;have aD:(x.length+1) * 16<=140737488355328:=zO;simp only [↓wR,zV,simprocAttr,hc,yx,hn.label c (zm hc),aD];refine ⟨x++[fold c],⟨?_,by simp;omega⟩,by simp;omega,zF,zF⟩;rw [<- hR,aCe hc];simp
 ·rw [gz h] at hR;simp only [↓wR,zV,simprocAttr,h];simpa [fv] using hR
noncomputable def Dq (x:Name × Unit):Option AV:=if bj x.1 then some ((r1 au).E true (fv x.1)) else none
theorem Py (x:Name × Unit) (r:AV) (h:Dq x=some r):bo PP 153 ((aC au a0).E x) r:=by obtain ⟨hc,rfl⟩:=zI h;exact bf (ak.cons (aq Fg) (ak.nil PP)) Tryz.func153 zK zK zK zL (r1 au) true (fv x.1) (ann x.1 hc)
noncomputable abbrev aik:Nat × Bool × (List AV->M AV):=(153,true,dg (aC au a0) Dq)
theorem P5 {n:Name} (h:cg n=0):br n<=255:=by
 unfold cg at h
 split at h
 ·cases h
 ·split at h
  ·cases h
  ·omega
theorem bj.fit {n:Name} (h:bj n):br n<17592186044416:=by unfold bj at h;omega
def O8:ByteArray:=⟨#[42]⟩
def jh (s:ByteArray):List UInt8:=UInt8.ofNat s.size::s.data.toList
def nameBytes (n:Name):List UInt8:=n.flatMap jh++[0]
def n8 (n:Name):List UInt8:=if cg n≠0 then [] else nameBytes n
theorem Gr (s):(jh s).length=s.size+1:=by simp [jh]
theorem rp (n:Name):(n.flatMap jh).length+1=br n:=by
 induction n with
 |nil=>rfl
 |cons a l ih=>
  have:=wu [a] l;have h3:br [a]=a.size+2:=by simp [br];omega
  simp only [List.singleton_append] at this;simp only [List.flatMap_cons,za,Gr];omega
theorem ak1 (n:Name) (hn:bj n):wl PP [fh] 0 (Tryz.f189.body.getD .skip) (di PP Tryz.f189.results.toList (fun r st=>(r2 (bw bt) (bh .i64)).get true st.h r=some (n8 n,cg n))) (cj 0 [au.val false n]) (ay []):=by
 unfold Tryz.f189;simp only [cr];have cG:=hn.lt;simp only [↓wR,zV,simprocAttr,j7,hn.fit];rw [dv];refine ⟨fun h=>?_,fun h=>?_⟩
 ·have he:cg n≠0:=by simpa using h
  have hb:n8 n=[]:=if_pos he;simp only [↓wR,zV,simprocAttr,hb]
 have he:cg n=0:=by simpa using h
 have hb:n8 n=nameBytes n:=if_neg zO;rw [hb,he];simp only [↓wR,zV,simprocAttr];refine i9 [13,14,15,5] (fun (x:Nat × List UInt8)=>[.vl false 1 (n.map (ah.val false)),.sc (.int .i64 n.length),.sc (.int .i64 x.1),.sl 0 0 x.2.length 1]) (fun x=>[some (.row (x.2.map (bt.val false)) 0 0 5)]) (fun x=>x.2++(n.drop x.1).flatMap jh=n.flatMap jh/\x.1<=n.length) (fun x=>n.length - x.1) (0,[]) ⟨rfl,zzb _⟩ (by simp only [↓wR,zV,simprocAttr];(refine kh.lax [] (by first|exact zB rfl|(simp [cz];omega)) ?_ ?_<;>repeat' first|exact ft.nil|exact cq.nil|exact gn.same _|exact gn.nil _ _ _|exact gn.qb _ _|exact cq.refl _ _|apply ft.cons|apply cq.ghost|apply cq.same|apply cq.row)) ?_;rintro ⟨i,x⟩ ⟨hR,hx⟩;simp only at hR hx;have nC:=rp n;have hsm:=P5 he;simp only [↓wR,zV,simprocAttr];rw [dv];refine ⟨fun h2=>?_,fun h2=>?_⟩
 ·obtain ⟨c,hc,hd,hlt⟩:=fi h2;rw [hd,List.flatMap_cons] at hR;have hl:x.length+(jh c).length<=(n.flatMap jh).length:=by rw [<- hR];simp
  rw [Gr] at hl
  repeat (first|simp only [↓wR,zV,simprocAttr,hc]|simp (disch:=omega) only [zW])
  refine ⟨(i+1,x++jh c),⟨by rw [<- hR];simp,hlt⟩,by simp;omega,?_,by simp only [jh,zzw,List.map_cons,zzc,List.singleton_append,Hm]⟩;simp only [List.cons.injEq,and_true,true_and,AV.sc.injEq,Value.int.injEq,AV.sl.injEq,jh,za,List.length_cons];refine ⟨by (try simp (disch:=omega) only [zW]);simp,by simp;omega⟩
 ·rw [gz h2] at hR;have hl:x.length<br n:=by rw [<- nC,<- hR];simp
  repeat (first|simp only [↓wR,zV,simprocAttr,h2]|simp (disch:=omega) only [zW])
  simp only [nameBytes,<- hR];simp
noncomputable def Ak (x:Name × Unit):Option AV:=if bj x.1 then some ((r2 (bw bt) (bh .i64)).E true ((n8 x.1,cg x.1))) else none
theorem aa0 (x:Name × Unit) (r:AV) (h:Ak x=some r):bo PP 189 ((aC au a0).E x) r:=by obtain ⟨hc,rfl⟩:=zI h;exact bf (ak.cons (aq u7) (ak.nil PP)) Tryz.func189 zK zK zK zL (r2 (bw bt) (bh .i64)) true ((n8 x.1,cg x.1)) (ak1 x.1 hc)
noncomputable abbrev avv:Nat × Bool × (List AV->M AV):=(189,true,dg (aC au a0) Ak)
end Go.Proofs.YtjagjbceegbaiaaGreat
end
section
namespace Go.Proofs.YtjagjbceegbaiaaGreat
open Go.Vm
theorem Oy {α:Type} {f : α->AV} {xs:List α} (h:xs≠[]) (op l sz p q):Uh op (.vl l sz (xs.map f)) (.sc (.slice none p q))=se op false:=by
 cases xs with
 |nil=>exact (h rfl).elim
 |cons x xs=>rfl
def Sw (v:Value):Prop:=v = .slice none 0 0\/∃ a c,v = .slice (some a) 0 c
theorem Gp {f:Nat} {r:AV} {sz:Nat} (h:∀ v,Sw v->bo PP f [.sc v] r):bo PP f [.vl false sz []] r:=by
 intro K w vs hK hrel;obtain ⟨v,rfl,hv⟩:=Ox hrel;have hE:Sw v:=by
  cases hv with
  |vl=>exact .inr ⟨_,_,rfl⟩
  |ni=>exact .inl rfl
  |xk=>exact .inr ⟨_,_,rfl⟩
 exact h v hE K w [v] hK (bz.cons (.sc v) (bz.nil _ _))
theorem aov (l:List UInt32) (hne:l≠[]) (hl:l.length<=16777216):wl PP [] 0 (Tryz.f160.body.getD .skip) (di PP Tryz.f160.results.toList (fun r st=>(r1 (bw cy)).get true st.h r=some l)) (cj 0 [(bw cy).val false l]) (ay []):=by unfold Tryz.f160;rw [nv];have hb:l.length * 4<=140737488355328:=zO;simp only [↓wR,zV,simprocAttr,Oy hne,hb]
theorem ai4 (v:Value) (hv:Sw v):wl PP [] 0 (Tryz.f160.body.getD .skip) (di PP Tryz.f160.results.toList (fun r st=>(r1 (bw cy)).get true st.h r=some [])) (cj 0 [.sc v]) (ay []):=by
 unfold Tryz.f160;rcases hv with rfl|⟨a,c,rfl⟩
 ·simp only [↓wR,zV,simprocAttr]
 ·simp only [↓wR,zV,simprocAttr]
noncomputable def Dn (x:List UInt32 × Unit):Option AV:=if x.1.length<=16777216 then some ((r1 (bw cy)).E true x.1) else none
theorem Ps (x:List UInt32 × Unit) (r:AV) (h:Dn x=some r):bo PP 160 ((aC (bw cy) a0).E x) r:=by
 by_cases hc:x.1.length<=16777216
 case neg=>simp only [Dn,if_neg hc] at h;cases h
 simp only [Dn,if_pos hc] at h;cases h;obtain ⟨l,⟨⟩⟩:=x;by_cases hn:l=[]
 ·subst hn;exact Gp (sz:=1) fun v hv=>bf (ak.nil PP) Tryz.func160 zK zK zK zL (r1 (bw cy)) true [] (ai4 v hv)
 ·exact bf (ak.nil PP) Tryz.func160 zK zK zK zL (r1 (bw cy)) true l (aov l hn hc)
noncomputable abbrev aib:Nat × Bool × (List AV->M AV):=(160,true,dg (aC (bw cy) a0) Dn)
theorem an6 (l:List ByteArray) (hne:l≠[]) (hl:l.length<=16777216):wl PP [] 0 (Tryz.f161.body.getD .skip) (di PP Tryz.f161.results.toList (fun r st=>(r1 (bw ah)).get true st.h r=some l)) (cj 0 [(bw ah).val false l]) (ay []):=by unfold Tryz.f161;rw [nv];have hb:l.length * 16<=140737488355328:=zO;simp only [↓wR,zV,simprocAttr,Oy hne,hb]
theorem ahy (v:Value) (hv:Sw v):wl PP [] 0 (Tryz.f161.body.getD .skip) (di PP Tryz.f161.results.toList (fun r st=>(r1 (bw ah)).get true st.h r=some [])) (cj 0 [.sc v]) (ay []):=by
 unfold Tryz.f161;rcases hv with rfl|⟨a,c,rfl⟩
 ·simp only [↓wR,zV,simprocAttr]
 ·simp only [↓wR,zV,simprocAttr]
noncomputable def Cy (x:List ByteArray × Unit):Option AV:=if x.1.length<=16777216 then some ((r1 (bw ah)).E true x.1) else none
theorem Qg (x:List ByteArray × Unit) (r:AV) (h:Cy x=some r):bo PP 161 ((aC (bw ah) a0).E x) r:=by
 by_cases hc:x.1.length<=16777216
 case neg=>simp only [Cy,if_neg hc] at h;cases h
 simp only [Cy,if_pos hc] at h;cases h;obtain ⟨l,⟨⟩⟩:=x;by_cases hn:l=[]
 ·subst hn;exact Gp (sz:=1) fun v hv=>bf (ak.nil PP) Tryz.func161 zK zK zK zL (r1 (bw ah)) true [] (ahy v hv)
 ·exact bf (ak.nil PP) Tryz.func161 zK zK zK zL (r1 (bw ah)) true l (an6 l hn hc)
noncomputable abbrev alr:Nat × Bool × (List AV->M AV):=(161,true,dg (aC (bw ah) a0) Cy)
theorem avb (l:List UInt8) (hne:l≠[]) (hl:l.length<=16777216):wl PP [] 0 (Tryz.f162.body.getD .skip) (di PP Tryz.f162.results.toList (fun r st=>(r1 (bw bt)).get true st.h r=some l)) (cj 0 [(bw bt).val false l]) (ay []):=by unfold Tryz.f162;rw [nv];have hb:l.length<=140737488355328:=zO;simp only [↓wR,zV,simprocAttr,Oy hne,hb]
theorem ao5 (v:Value) (hv:Sw v):wl PP [] 0 (Tryz.f162.body.getD .skip) (di PP Tryz.f162.results.toList (fun r st=>(r1 (bw bt)).get true st.h r=some [])) (cj 0 [.sc v]) (ay []):=by
 unfold Tryz.f162;rcases hv with rfl|⟨a,c,rfl⟩
 ·simp only [↓wR,zV,simprocAttr]
 ·simp only [↓wR,zV,simprocAttr]
noncomputable def F5 (x:List UInt8 × Unit):Option AV:=if x.1.length<=16777216 then some ((r1 (bw bt)).E true x.1) else none
theorem Sv (x:List UInt8 × Unit) (r:AV) (h:F5 x=some r):bo PP 162 ((aC (bw bt) a0).E x) r:=by
 by_cases hc:x.1.length<=16777216
 case neg=>simp only [F5,if_neg hc] at h;cases h
 simp only [F5,if_pos hc] at h;cases h;obtain ⟨l,⟨⟩⟩:=x;by_cases hn:l=[]
 ·subst hn;exact Gp (sz:=1) fun v hv=>bf (ak.nil PP) Tryz.func162 zK zK zK zL (r1 (bw bt)) true [] (ao5 v hv)
 ·exact bf (ak.nil PP) Tryz.func162 zK zK zK zL (r1 (bw bt)) true l (avb l hn hc)
noncomputable abbrev aqr:Nat × Bool × (List AV->M AV):=(162,true,dg (aC (bw bt) a0) F5)
structure Shape where
 names:Int
 nums:Int
 size:Int
 texts:Int
 raw:Int
noncomputable def zb:er Shape:=Em (mi (bh .i64) (mi (bh .i64) (mi (bh .i64) (mi (bh .i64) (bh .i64))))) (fun s=>(s.names,s.nums,s.size,s.texts,s.raw)) (fun p=>⟨p.1,p.2.1,p.2.2.1,p.2.2.2.1,p.2.2.2.2⟩) (fun _=>rfl) (fun _=>rfl)
theorem Kg (l:Bool) (s:Shape):zb.val l s = .agg [.sc (.int .i64 s.names),.sc (.int .i64 s.nums),.sc (.int .i64 s.size),.sc (.int .i64 s.texts),.sc (.int .i64 s.raw)]:=id rfl
theorem od (fr h) (a b c d e:Int):zb.j9 fr h (.agg [.sc (.int .i64 a),.sc (.int .i64 b),.sc (.int .i64 c),.sc (.int .i64 d),.sc (.int .i64 e)])=some ⟨a,b,c,d,e⟩:=aIn zb fr h ⟨a,b,c,d,e⟩
def du (t:UInt16):Shape:=
 if (t.toNat:Int)=1 then ⟨0,0,0,0,4⟩ else if (t.toNat:Int)=28 then ⟨0,0,0,0,16⟩ else if (t.toNat:Int)=2 then ⟨1,0,0,0,0⟩ else if (t.toNat:Int)=5 then ⟨1,0,0,0,0⟩ else if (t.toNat:Int)=12 then ⟨1,0,0,0,0⟩
 else if (t.toNat:Int)=6 then ⟨2,5,4,0,0⟩ else if (t.toNat:Int)=15 then ⟨1,1,2,0,0⟩ else if (t.toNat:Int)=33 then ⟨1,3,2,0,0⟩ else if (t.toNat:Int)=16 then ⟨0,0,0,-1,0⟩ else if (t.toNat:Int)=257 then ⟨0,1,1,2,0⟩ else ⟨0,0,0,0,-1⟩
theorem axw (t:UInt16):wl PP [] 0 (Tryz.f150.body.getD .skip) (di PP Tryz.f150.results.toList (fun r st=>(r1 zb).get true st.h r=some (du t))) (cj 0 [ct.val false t]) (ay []):=by
 unfold Tryz.f150;unfold du;simp only [↓wR,zV,simprocAttr];rw [cp];refine ⟨fun ⟨h0,e0⟩=>?_,fun ⟨h0,e0⟩=>?_⟩
 ·simp only [↓wR,zV,simprocAttr,h0];rw [if_pos e0];exact od ..
 rw [if_neg e0];simp only [↓wR,zV,simprocAttr,h0];rw [cp];refine ⟨fun ⟨h1,e1⟩=>?_,fun ⟨h1,e1⟩=>?_⟩
 ·simp only [↓wR,zV,simprocAttr,h1];rw [if_pos e1];exact od ..
 rw [if_neg e1];simp only [↓wR,zV,simprocAttr,h1];rw [cp];refine ⟨fun ⟨h2,e2⟩=>?_,fun ⟨h2,e2⟩=>?_⟩
 ·simp only [↓wR,zV,simprocAttr,h2];rw [if_pos e2];exact od ..
 rw [if_neg e2];simp only [↓wR,zV,simprocAttr,h2];rw [cp];refine ⟨fun ⟨h3,e3⟩=>?_,fun ⟨h3,e3⟩=>?_⟩
 ·simp only [↓wR,zV,simprocAttr,h3];rw [if_pos e3];exact od ..
 rw [if_neg e3];simp only [↓wR,zV,simprocAttr,h3];rw [cp];refine ⟨fun ⟨h4,e4⟩=>?_,fun ⟨h4,e4⟩=>?_⟩
 ·simp only [↓wR,zV,simprocAttr,h4];rw [if_pos e4];exact od ..
 rw [if_neg e4];simp only [↓wR,zV,simprocAttr,h4];rw [cp];refine ⟨fun ⟨h5,e5⟩=>?_,fun ⟨h5,e5⟩=>?_⟩
 ·simp only [↓wR,zV,simprocAttr,h5];rw [if_pos e5];exact od ..
 rw [if_neg e5];simp only [↓wR,zV,simprocAttr,h5];rw [cp];refine ⟨fun ⟨h6,e6⟩=>?_,fun ⟨h6,e6⟩=>?_⟩
 ·simp only [↓wR,zV,simprocAttr,h6];rw [if_pos e6];exact od ..
 rw [if_neg e6];simp only [↓wR,zV,simprocAttr,h6];rw [cp];refine ⟨fun ⟨h7,e7⟩=>?_,fun ⟨h7,e7⟩=>?_⟩
 ·simp only [↓wR,zV,simprocAttr,h7];rw [if_pos e7];exact od ..
 rw [if_neg e7];simp only [↓wR,zV,simprocAttr,h7];rw [cp];refine ⟨fun ⟨h8,e8⟩=>?_,fun ⟨h8,e8⟩=>?_⟩
 ·simp only [↓wR,zV,simprocAttr,h8];rw [if_pos e8];exact od ..
 rw [if_neg e8];simp only [↓wR,zV,simprocAttr,h8];rw [cp];refine ⟨fun ⟨h9,e9⟩=>?_,fun ⟨h9,e9⟩=>?_⟩
 ·simp only [↓wR,zV,simprocAttr,h9];rw [if_pos e9];exact od ..
 rw [if_neg e9];simp only [↓wR,zV,simprocAttr,h9];exact od ..
noncomputable def Kc (x:UInt16 × Unit):Option AV:=some ((r1 zb).E true (du x.1))
theorem Jz (x:UInt16 × Unit) (r:AV) (h:Kc x=some r):bo PP 150 ((aC ct a0).E x) r:=by cases h;exact bf (ak.nil PP) Tryz.func150 zK zK zK zL (r1 zb) true (du x.1) (axw x.1)
noncomputable abbrev ada:Nat × Bool × (List AV->M AV):=(150,true,dg (aC ct a0) Kc)
def qq (t:UInt16):Bool:=(t.toNat:Int) == 0 || (decide ((128:Int)<=(t.toNat:Int)) && decide ((t.toNat:Int)<=255))
theorem azm (t:UInt16):wl PP [] 0 (Tryz.f149.body.getD .skip) (di PP Tryz.f149.results.toList (fun r st=>(r1 bq).get true st.h r=some (qq t))) (cj 0 [ct.val false t]) (ay []):=by
 unfold Tryz.f149;unfold qq;simp only [↓wR,zV,simprocAttr];rw [cp];refine ⟨fun ⟨h,e⟩=>?_,fun ⟨h,e⟩=>?_⟩
 ·simp only [↓wR,zV,simprocAttr,h]
 ·simp only [↓wR,zV,simprocAttr,h];rw [az];refine ⟨fun h2=>?_,fun h2=>?_⟩
  ·simp only [↓wR,zV,simprocAttr,h2]
  ·simp only [↓wR,zV,simprocAttr,h2];rfl
noncomputable def abw (x:UInt16 × Unit):Option AV:=some ((r1 bq).E true (qq x.1))
theorem apl (x:UInt16 × Unit) (r:AV) (h:abw x=some r):bo PP 149 ((aC ct a0).E x) r:=by cases h;exact bf (ak.nil PP) Tryz.func149 zK zK zK zL (r1 bq) true (qq x.1) (azm x.1)
noncomputable abbrev aIk:Nat × Bool × (List AV->M AV):=(149,true,dg (aC ct a0) abw)
noncomputable def Et (n:UInt32):List UInt8:=[UInt8.ofNat (n.toNat / 16777216),UInt8.ofNat (n.toNat / 65536),UInt8.ofNat (n.toNat / 256),UInt8.ofNat n.toNat]
theorem aCt (n:UInt32):wl PP [] 0 (Tryz.f188.body.getD .skip) (di PP Tryz.f188.results.toList (fun r st=>(r1 (bw bt)).get true st.h r=some (Et n))) (cj 0 [cy.val false n]) (ay []):=by unfold Tryz.f188;simp only [↓wR,zV,simprocAttr];rfl
noncomputable def Ue (x:UInt32 × Unit):Option AV:=some ((r1 (bw bt)).E true (Et x.1))
theorem ao6 (x:UInt32 × Unit) (r:AV) (h:Ue x=some r):bo PP 188 ((aC cy a0).E x) r:=by cases h;exact bf (ak.nil PP) Tryz.func188 zK zK zK zL (r1 (bw bt)) true (Et x.1) (aCt x.1)
noncomputable abbrev aHw:Nat × Bool × (List AV->M AV):=(188,true,dg (aC cy a0) Ue)
def Ft (c:UInt8):Bool:=decide (97<=c.toNat/\c.toNat<=122\/65<=c.toNat/\c.toNat<=90\/48<=c.toNat/\c.toNat<=57)
def x9 (s:ByteArray):Bool:=s.data.toList.all Ft && decide (1<=s.size/\s.size<=15)
theorem aI6 (s:ByteArray) (hs:s.size<=16777216):wl PP [] 0 (Tryz.f185.body.getD .skip) (di PP Tryz.f185.results.toList (fun r st=>(r1 bq).get true st.h r=some (x9 s))) (cj 0 [ah.val false s]) (ay []):=by
 unfold Tryz.f185;simp only [↓wR,zV,simprocAttr];refine da [0,6,7] (fun (i:Nat)=>[.sc (.string s),.sc (.int .i64 s.size),.sc (.int .i64 i)]) (fun _=>[]) (fun i=>i<=s.size/\s.data.toList.all Ft=(s.data.toList.drop i).all Ft) (fun i=>s.size - i) 0 ⟨zzb _,rfl⟩ ?_ ?_ ?_
 ·simp only [↓wR,zV,simprocAttr]<;>rfl
 ·simp only [↓wR,zV,simprocAttr]
 rintro i ⟨hi,hR⟩;simp only [↓wR,zV,simprocAttr];rw [az];refine ⟨fun h=>?_,fun h=>?_⟩
 ·obtain ⟨c,hc⟩:∃ c,s.data.toList[i]? = some c:=⟨_,zh (by simp;omega)⟩;have hd:=F9 hc;rw [hd,List.all_cons] at hR
  repeat (first|simp only [↓wR,zV,simprocAttr,h,hc]|simp (disch:=omega) only [zW])
  repeat' (rw [az];refine ⟨fun h=>?_,fun h=>?_⟩<;>simp only [↓wR,zV,simprocAttr,h,hc])
  all_goals first
   |(
    have ht:Ft c=false:=by (unfold Ft;rw [decide_eq_false_iff_not];omega)
    rw [x9,hR,ht];rfl)
   |(
    have ht:Ft c=true:=by (unfold Ft;rw [decide_eq_true_eq];omega)
    refine ⟨i+1,⟨zO,by rw [hR,ht];simp⟩,zO,zF⟩)
 ·have kR:s.data.toList.drop i=[]:=zzx (by simp;omega);rw [kR,List.all_nil] at hR;simp only [↓wR,zV,simprocAttr,h];unfold x9;rw [hR];rw [az];refine ⟨fun h1=>?_,fun h1=>?_⟩
  ·simp only [↓wR,zV,simprocAttr,h1]
   congr 1
   rw [zyc];simp;omega
  ·simp only [↓wR,zV,simprocAttr,h1]
   congr 1
   rw [zyc];simp;omega
noncomputable def Y9 (x:ByteArray × Unit):Option AV:=if x.1.size<=16777216 then some ((r1 bq).E true (x9 x.1)) else none
theorem az6 (x:ByteArray × Unit) (r:AV) (h:Y9 x=some r):bo PP 185 ((aC ah a0).E x) r:=by obtain ⟨hc,rfl⟩:=zI h;exact bf (ak.nil PP) Tryz.func185 zK zK zK zL (r1 bq) true (x9 x.1) (aI6 x.1 hc)
noncomputable abbrev aLx:Nat × Bool × (List AV->M AV):=(185,true,dg (aC ah a0) Y9)
def dk {α:Type} (f : α->Nat) (l:List α):Nat:=l.foldr (fun x k=>f x+k+1) 0
def ly (d:bp):Nat:=dk br d.names+d.nums.length+dk ByteArray.size d.texts+d.raw.length
theorem u3 {α:Type} {f : α->Nat} {l:List α} {x : α} (h:x ∈ l):f x<dk f l:=by
 induction l with
 |nil=>cases h
 |cons a l ih=>
  simp only [dk,List.foldr_cons] at ih ⊢;rcases zyb.1 h with rfl|h
  ·omega
  ·have:=ih h;omega
theorem I5 {α:Type} (f : α->Nat) (l:List α):l.length<=dk f l:=by
 induction l with
 |nil=>exact zza _
 |cons a l ih=>simp only [dk,List.foldr_cons,List.length_cons] at ih ⊢;omega
def ca (d:bp):Prop:=ly d<=16777216
instance (d:bp):Decidable (ca d):=inferInstanceAs (Decidable (_<=_))
theorem ca.name {d:bp} (h:ca d):∀ n ∈ d.names,bj n:=fun n hn=>by have h1:br n<dk br d.names:=u3 hn;unfold ca ly at h;unfold bj;omega
theorem ca.text {d:bp} (h:ca d):∀ s ∈ d.texts,s.size<=16777216:=fun s hs=>by have h1:ByteArray.size s<dk ByteArray.size d.texts:=u3 hs;unfold ca ly at h;omega
theorem ca.lens {d:bp} (h:ca d):d.names.length<=16777216/\d.nums.length<=16777216/\d.texts.length<=16777216/\d.raw.length<=16777216:=by have h1:=I5 br d.names;have h2:=I5 ByteArray.size d.texts;unfold ca ly at h;omega
noncomputable def Ev (s:Shape):Int:=IntKind.u32.wrap (1 * 2 ^ (if (8 * s.size).toNat<=32 then (8 * s.size).toNat else 32))
noncomputable def xo (s:Shape) (t:UInt16) (d:bp):Bool:=
 if (d.names.length:Int)≠s.names\/(d.nums.length:Int)≠s.nums\/(0<=s.raw/\(d.raw.length:Int)≠s.raw) then false
 else if s.size<4/\(d.nums.any fun n=>decide (Ev s<=(n.toNat:Int)))=true then false
 else if (t.toNat:Int)=257 then decide (d.texts.length=2) && x9 (d.texts.headD ⟨#[]⟩)
 else if s.texts=0 then decide (d.texts.length=0)
 else decide (0<d.texts.length) && !(d.texts.any fun x=>decide (255<x.size))
noncomputable def aav (s:Shape) (t:UInt16) (d:bp):Bool:=
 if s.size<4/\(d.nums.any fun n=>decide (Ev s<=(n.toNat:Int)))=true then false
 else if (t.toNat:Int)=257 then decide (d.texts.length=2) && x9 (d.texts.headD ⟨#[]⟩)
 else if s.texts=0 then decide (d.texts.length=0)
 else decide (0<d.texts.length) && !(d.texts.any fun x=>decide (255<x.size))
theorem aEw (s:Shape) (t:UInt16) (d:bp) (hs : 0<=s.size/\s.size<=4) (hd:ca d):wl PP [aLx] 0 (Tryz.f151.body.getD .skip) (di PP Tryz.f151.results.toList (fun r st=>(r1 bq).get true st.h r=some (xo s t d))) (cj 0 [zb.val false s,ct.val false t,ai.val false d]) (ay []):=by
 unfold Tryz.f151;obtain ⟨l1,l2,l3,l4⟩:=hd.lens;simp only [Kg,jn,cr];simp only [↓wR,zV,simprocAttr];rw [de];refine ⟨fun ⟨h,e⟩=>?_,fun ⟨h,e⟩=>?_⟩
 ·have hv:xo s t d=false:=if_pos (.inl e);simp only [↓wR,zV,simprocAttr,h,hv]
 simp only [↓wR,zV,simprocAttr,h];rw [de];refine ⟨fun ⟨h2,e2⟩=>?_,fun ⟨h2,e2⟩=>?_⟩
 ·have hv:xo s t d=false:=if_pos (.inr (.inl e2));simp only [↓wR,zV,simprocAttr,h2,hv]
 simp only [↓wR,zV,simprocAttr,h2];have lM:¬ (0<=s.raw/\(d.raw.length:Int)≠s.raw)->xo s t d=aav s t d:=fun hr=>if_neg (fun h=>by
  rcases h with h|h|h
  ·exact h e
  ·exact h e2
  ·exact hr h)
 rw [az];refine ⟨fun h3=>?_,fun h3=>?_⟩;simp only [↓wR,zV,simprocAttr,h3];rw [de];refine ⟨fun ⟨h4,e4⟩=>?_,fun ⟨h4,e4⟩=>?_⟩;have hv:xo s t d=false:=if_pos (.inr (.inr ⟨h3,e4⟩));simp only [↓wR,zV,simprocAttr,h4,hv];rw [lM (fun q=>q.2 e4)];simp only [↓wR,zV,simprocAttr,h4];rotate_left;rw [lM (fun q=>h3 q.1)];simp only [↓wR,zV,simprocAttr,h3]
 all_goals
  clear lM;refine da [1,3,5,37,38,39] (fun (i:Nat)=>[.sc (.int .u16 t.toNat),.ptr 0 0,.ptr 1 0,.vl false 1 (d.nums.map (cy.val false)),.sc (.int .i64 d.nums.length),.sc (.int .i64 i)]) (fun _=>[some (.row [.sc (.int .i64 s.names),.sc (.int .i64 s.nums),.sc (.int .i64 s.size),.sc (.int .i64 s.texts),.sc (.int .i64 s.raw)] 0 2 185),some (.row [.vl false 1 (d.names.map (au.val false)),.vl false 1 (d.nums.map (cy.val false)),.vl false 1 (d.texts.map (ah.val false)),.vl false 1 (d.raw.map (bt.val false))] 0 2 116)]) (fun i=>i<=d.nums.length/\(s.size<4->(d.nums.any fun n=>decide (Ev s<=(n.toNat:Int)))=((d.nums.drop i).any fun n=>decide (Ev s<=(n.toNat:Int))))) (fun i=>d.nums.length - i) 0 ⟨zzb _,fun _=>rfl⟩ (by simp only [↓wR,zV,simprocAttr]<;>rfl) (by simp only [↓wR,zV,simprocAttr]<;>rfl) ?_;clear h h2 e e2;rintro i ⟨hi,hR⟩;simp only [↓wR,zV,simprocAttr];rw [az];refine ⟨fun h=>?_,fun h=>?_⟩
  ·obtain ⟨c,hc,aH,hlt⟩:=fi (zp h);rw [aH,List.any_cons] at hR;simp only [↓wR,zV,simprocAttr,h,hc];rw [az];refine ⟨fun h5=>?_,fun h5=>?_⟩
   ·have hR:=hR h5;have uU:(0:Int)<=8 * s.size:=zO
    repeat (first|simp only [↓wR,zV,simprocAttr,h5,uU]|simp (disch:=omega) only [zW])
    rw [az];refine ⟨fun h6=>?_,fun h6=>?_⟩
    ·have hv:aav s t d=false:=by
      rw [aav,if_pos ⟨h5,by rw [hR,zp (show Ev s<=(c.toNat:Int) from h6)];rfl⟩]
     simp only [↓wR,zV,simprocAttr,h6,hv]
    ·repeat (first|simp only [↓wR,zV,simprocAttr,h6]|simp (disch:=omega) only [zW])
     refine ⟨i+1,⟨hlt,fun _=>?_⟩,zO,zF⟩;rw [hR,zq (show ¬ Ev s<=(c.toNat:Int) from h6),Bool.false_or]
   ·repeat (first|simp only [↓wR,zV,simprocAttr,h5]|simp (disch:=omega) only [zW])
    exact ⟨i+1,⟨hlt,fun h=>h.elim⟩,zO,zF⟩
  ·rw [gz (zq h),List.any_nil] at hR;have hr:aav s t d=if (t.toNat:Int)=257 then decide (d.texts.length=2) && x9 (d.texts.headD ⟨#[]⟩) else if s.texts=0 then decide (d.texts.length=0) else decide (0<d.texts.length) && !(d.texts.any fun x=>decide (255<x.size)):=by
    rw [aav,if_neg];rintro ⟨q1,q2⟩;rw [hR q1] at q2;cases q2
   simp only [↓wR,zV,simprocAttr,h];rw [cp];refine ⟨fun ⟨h6,e6⟩=>?_,fun ⟨h6,e6⟩=>?_⟩
   ·rw [if_pos e6] at hr;simp only [↓wR,zV,simprocAttr,h6];rw [cp];refine ⟨fun ⟨h7,e7⟩=>?_,fun ⟨h7,e7⟩=>?_⟩
    ·obtain ⟨c,hc⟩:∃ c,d.texts[0]? = some c:=⟨_,zh zO⟩;have hh:d.texts.headD ⟨#[]⟩=c:=by
      cases ht:d.texts with
      |nil=>rw [ht] at hc;cases hc
      |cons a l=>rw [ht] at hc;simpa using hc
     rw [hh,zp (show d.texts.length=2 by omega)] at hr;simp only [↓wR,zV,simprocAttr,h7,hc,Y9,hd.text c (zm hc)];rw [hr];rfl
    ·simp only [↓wR,zV,simprocAttr,h7];rw [hr,zq (show ¬ d.texts.length=2 by omega)];rfl
   ·rw [if_neg e6] at hr;simp only [↓wR,zV,simprocAttr,h6];rw [cp];refine ⟨fun ⟨h7,e7⟩=>?_,fun ⟨h7,e7⟩=>?_⟩
    ·rw [if_pos e7] at hr;simp only [↓wR,zV,simprocAttr,h7];rw [hr];congr 1;rw [zyc];simp
    ·rw [if_neg e7] at hr;simp only [↓wR,zV,simprocAttr,h7];rw [az];refine ⟨fun h8=>?_,fun h8=>?_⟩
     ·simp only [↓wR,zV,simprocAttr,h8];refine cb (T:=[]) (ak.nil PP) mixed Tryz.func186 rfl zK zK zK zK ?_;unfold Tryz.f186;simp only [↓wR,zV,simprocAttr];refine cb (T:=[]) (ak.nil PP) mixed Tryz.func206 rfl zK zK zK zK ?_;unfold Tryz.f206;simp only [↓wR,zV,simprocAttr];refine da [0,1,7,8] (fun (i:Nat)=>[.vl false 1 (d.texts.map (ah.val false)),.sc (.func (.func 187) #[] #[]),.sc (.int .i64 d.texts.length),.sc (.int .i64 i)]) (fun _=>[some (.row [.sc (.int .i64 s.names),.sc (.int .i64 s.nums),.sc (.int .i64 s.size),.sc (.int .i64 s.texts),.sc (.int .i64 s.raw)] 0 2 185),some (.row [.vl false 1 (d.names.map (au.val false)),.vl false 1 (d.nums.map (cy.val false)),.vl false 1 (d.texts.map (ah.val false)),.vl false 1 (d.raw.map (bt.val false))] 0 2 116)]) (fun i=>i<=d.texts.length/\(d.texts.any fun x=>decide (255<x.size))=((d.texts.drop i).any fun x=>decide (255<x.size))) (fun i=>d.texts.length - i) 0 ⟨zzb _,rfl⟩ (by simp only [↓wR,zV,simprocAttr]<;>rfl) (by simp only [↓wR,zV,simprocAttr]<;>rfl) ?_;rintro k ⟨hk,hK⟩;simp only [↓wR,zV,simprocAttr];rw [az];refine ⟨fun h9=>?_,fun h9=>?_⟩
      ·obtain ⟨c,hc,aH,hlt⟩:=fi (zp h9);rw [aH,List.any_cons] at hK
       repeat (first|simp only [↓wR,zV,simprocAttr,h9,hc]|simp (disch:=omega) only [zW])
       refine cb (T:=[]) (ak.nil PP) mixed Tryz.func187 rfl zK zK zK zK ?_;unfold Tryz.f187;simp only [↓wR,zV,simprocAttr];rw [az];refine ⟨fun h10=>?_,fun h10=>?_⟩
       ·simp only [↓wR,zV,simprocAttr,h10];rw [hr,hK,zp (show 0<d.texts.length by omega),zp (show 255<c.size by omega)];rfl
       ·repeat (first|simp only [↓wR,zV,simprocAttr,h10]|simp (disch:=omega) only [zW])
        refine ⟨k+1,⟨hlt,?_⟩,zO,zF⟩;rw [hK,zq (show ¬ 255<c.size by omega),Bool.false_or]
      ·rw [gz (zq h9),List.any_nil] at hK;simp only [↓wR,zV,simprocAttr,h9];rw [hr,hK,zp (show 0<d.texts.length by omega)];rfl
     ·simp only [↓wR,zV,simprocAttr,h8];rw [hr,zq (show ¬ 0<d.texts.length by omega)];rfl
theorem Ez (t:UInt16) : 0<=(du t).size/\(du t).size<=4:=by
 unfold du
 repeat' split
 all_goals simp
noncomputable def Sm (x:Shape × UInt16 × bp × Unit):Option AV:=if (0<=x.1.size/\x.1.size<=4)/\ca x.2.2.1 then some ((r1 bq).E true (xo x.1 x.2.1 x.2.2.1)) else none
theorem asn (x:Shape × UInt16 × bp × Unit) (r:AV) (h:Sm x=some r):bo PP 151 ((aC zb (aC ct (aC ai a0))).E x) r:=by obtain ⟨hc,rfl⟩:=zI h;exact bf (ak.cons (aq az6) (ak.nil PP)) Tryz.func151 zK zK zK zL (r1 bq) true (xo x.1 x.2.1 x.2.2.1) (aEw x.1 x.2.1 x.2.2.1 hc.1 hc.2)
noncomputable abbrev aK6:Nat × Bool × (List AV->M AV):=(151,true,dg (aC zb (aC ct (aC ai a0))) Sm)
theorem aqh {α:Type} {l:List (List α)} {i:Nat} {c:List α} (h:l[i]? = some c):(l.drop i).flatten=c++(l.drop (i+1)).flatten:=by rw [F9 h];rfl
theorem aHd {α:Type} {l:List (List α)} {c:List α} (h:c ∈ l):c.length<=l.flatten.length:=by
 induction l with
 |nil=>cases h
 |cons a l ih=>
  simp only [List.flatten_cons,za];rcases zyb.1 h with rfl|h
  ·omega
  ·have:=ih h;omega
theorem axm (l:List (List UInt8)) (hl:l.length<=16777216) (hf:l.flatten.length<=134217728):wl PP [] 0 (Tryz.f190.body.getD .skip) (di PP Tryz.f190.results.toList (fun r st=>(r1 (bw bt)).get false st.h r=some l.flatten)) (cj 0 [(bw (bw bt)).val false l]) (ay []):=by
 unfold Tryz.f190;rw [nv];simp only [↓wR,zV,simprocAttr];refine da [0,3,9,10,11] (fun (x:Nat × Nat)=>[.vl false 1 (l.map ((bw bt).val false)),.sc (.int .i64 x.2),.vl false 1 (l.map ((bw bt).val false)),.sc (.int .i64 l.length),.sc (.int .i64 x.1)]) (fun _=>[]) (fun x=>x.1<=l.length/\x.2+(l.drop x.1).flatten.length=l.flatten.length) (fun x=>l.length - x.1) (0,0) ⟨zzb _,by simp⟩ (by simp only [↓wR,zV,simprocAttr]<;>rfl) (by simp only [↓wR,zV,simprocAttr]<;>rfl) ?_;rintro ⟨i,k⟩ ⟨hi,hk⟩;simp only at hi hk;simp only [↓wR,zV,simprocAttr];rw [az];refine ⟨fun h=>?_,fun h=>?_⟩
 ·obtain ⟨c,hc,aH,hlt⟩:=fi (zp h);rw [aqh hc,za] at hk
  repeat (first|simp only [↓wR,zV,simprocAttr,h,hc]|simp (disch:=omega) only [zW])
  rw [az];refine ⟨fun h1=>?_,fun h1=>?_⟩
  ·exfalso;omega
  ·repeat (first|simp only [↓wR,zV,simprocAttr,h1]|simp (disch:=omega) only [zW])
   exact ⟨(i+1,k+c.length),⟨hlt,by show k+c.length+(l.drop (i+1)).flatten.length=_;omega⟩,by simp;omega,by simp⟩
 ·rw [gz (zq h)] at hk;have hk:k=l.flatten.length:=by simpa using hk
  subst hk;simp only [↓wR,zV,simprocAttr,h];refine cb (T:=[]) (ak.nil PP) mixed Tryz.func207 rfl zK zK zK zK ?_;unfold Tryz.f207;simp only [↓wR,zV,simprocAttr];rw [az];refine ⟨fun h1=>?_,fun h1=>?_⟩
  ·exfalso;omega
  repeat (first|simp only [↓wR,zV,simprocAttr,h1]|simp (disch:=omega) only [zW])
  rw [az];refine ⟨fun h2=>?_,fun h2=>?_⟩
  ·have gG : 0<l.flatten.length:=zO
   repeat (first|simp only [↓wR,zV,simprocAttr,h2,gG]|simp (disch:=omega) only [zW])
   refine da [25,26,27,6] (fun (x:Nat × Nat × Nat × List UInt8)=>[.vl false 1 (l.map ((bw bt).val false)),.sc (.int .i64 l.length),.sc (.int .i64 x.1),.sl 0 0 x.2.1 1]) (fun x=>[some (.row (x.2.2.2.map (bt.val false)) 0 x.2.2.1 5)]) (fun x=>x.1<=l.length/\(x.2.1=x.2.2.2.length\/x.2.1=0)/\x.2.2.2.take x.2.1++(l.drop x.1).flatten=l.flatten) (fun x=>l.length - x.1) (0,0,0,List.replicate l.flatten.length 0) ⟨zzb _,.inr rfl,rfl⟩ (by simp only [↓wR,zV,simprocAttr]<;>rfl) (by simp only [↓wR,zV,simprocAttr]<;>rfl) ?_;rintro ⟨k,m,s,r⟩ ⟨eN,hk0,hk3⟩;simp only at eN hk0 hk3;have hk2:m<=r.length:=zO;simp only [↓wR,zV,simprocAttr];rw [az];refine ⟨fun h3=>?_,fun h3=>?_⟩
   ·obtain ⟨c,hc,aH,hlt⟩:=fi (zp h3);rw [aqh hc] at hk3;have hm:m+c.length<=134217728:=by
     have:=congrArg List.length hk3;simp only [za,zzl] at this;omega
    repeat (first|simp only [↓wR,zV,simprocAttr,h3,hc,hk2]|simp (disch:=omega) only [zW])
    have bY:(r.take m++c).length=m+c.length:=by simp [Nat.min_eq_left hk2]
    refine ⟨(k+1,m+c.length,sg (decide (m=r.length)) s,r.take m++c),⟨hlt,.inl bY.symm,?_⟩,by simp;omega,by simp,by simp⟩;show (r.take m++c).take (m+c.length)++_=_;rw [zzp (Nat.le_of_eq bY),zzc];exact hk3
   ·rw [gz (zq h3)] at hk3;have zD:m=r.length:=by
     have:=congrArg List.length hk3;simp only [za,zzl,List.flatten_nil,List.length_nil] at this;omega
    subst zD;have hr:r=l.flatten:=by simpa using hk3
    subst hr
    repeat (first|simp only [↓wR,zV,simprocAttr,h3,hk2]|simp (disch:=omega) only [zW])
  ·have hnil:l.flatten=[]:=zzf zO
   repeat (first|simp only [↓wR,zV,simprocAttr,h2]|simp (disch:=omega) only [zW])
   refine da [25,26,27,6] (fun (x:Nat)=>[.vl false 1 (l.map ((bw bt).val false)),.sc (.int .i64 l.length),.sc (.int .i64 x),.sc (.slice none 0 0)]) (fun _=>[]) (fun x=>x<=l.length) (fun x=>l.length - x) 0 (zzb _) (by simp only [↓wR,zV,simprocAttr]<;>rfl) (by simp only [↓wR,zV,simprocAttr]<;>rfl) ?_;intro k eN;simp only [↓wR,zV,simprocAttr];rw [az];refine ⟨fun h3=>?_,fun h3=>?_⟩
   ·obtain ⟨c,hc,aH,hlt⟩:=fi (zp h3);have hc0:c=[]:=zzf (by have:=aHd (zm hc);rw [hnil] at this;simpa using this);subst hc0
    repeat (first|simp only [↓wR,zV,simprocAttr,h3,hc]|simp (disch:=omega) only [zW])
    refine ⟨k+1,hlt,?_⟩
    first|(refine ⟨by simp;omega,?_⟩;simp)|(simp;omega)
   ·repeat (first|simp only [↓wR,zV,simprocAttr,h3]|simp (disch:=omega) only [zW])
    rw [hnil]
noncomputable def Gm (x:List (List UInt8) × Unit):Option AV:=if x.1.length<=16777216/\x.1.flatten.length<=134217728 then some ((r1 (bw bt)).E false (x.1.flatten)) else none
theorem al2 (x:List (List UInt8) × Unit) (r:AV) (h:Gm x=some r):bo PP 190 ((aC (bw (bw bt)) a0).E x) r:=by obtain ⟨hc,rfl⟩:=zI h;exact bf (ak.nil PP) Tryz.func190 zK zK zK zL (r1 (bw bt)) false (x.1.flatten) (axm x.1 hc.1 hc.2)
noncomputable abbrev aFm:Nat × Bool × (List AV->M AV):=(190,true,dg (aC (bw (bw bt)) a0) Gm)
theorem azo (n:Name):(n8 n).length<=br n:=by
 unfold n8 nameBytes
 split
 ·exact zzb _
 ·have:=rp n;rw [za];simp only [List.length_cons,List.length_nil];omega
noncomputable def Es (t:UInt16) (n:UInt32):List UInt8:=(Et n).drop (4 - (du t).size).toNat
def te (t:UInt16):Nat->List ByteArray->List UInt8
 |_,[]=>[]
 |i,x::r=>(if (t.toNat:Int)=16\/i=0 then [UInt8.ofNat x.size] else [])++x.data.toList++te t (i+1) r
noncomputable def As (t:UInt16) (d:bp):List UInt8:=d.nums.flatMap (Es t)
def wq (d:bp):List UInt8:=d.names.flatMap n8
def vj (t:UInt16) (d:bp):List UInt8:=te t 0 d.texts
noncomputable def qp (t:UInt16) (d:bp):List UInt8:=if (t.toNat:Int)=6 then wq d++As t d else As t d++(wq d++(vj t d++d.raw))
theorem Km (n):(Et n).length=4:=rfl
theorem anz {α:Type} (f : α->List UInt8) (μ : α->Nat) (h:∀ x,(f x).length <= μ x) (l:List α):(l.flatMap f).length<=dk μ l:=by
 induction l with
 |nil=>simp
 |cons a l ih=>have:=h a;simp only [List.flatMap_cons,za,dk,List.foldr_cons] at ih ⊢;omega
theorem avs (t:UInt16) (l:List ByteArray):∀ i,(te t i l).length<=dk ByteArray.size l:=by
 induction l with
 |nil=>intro i;simp [te]
 |cons a l ih=>
  intro i;have:=ih (i+1);have ha:a.data.size=a.size:=rfl;simp only [te,za,dk,List.foldr_cons,zya] at this ⊢
  split<;>simp<;>omega
theorem aws (t d):(As t d).length<=4 * d.nums.length:=by
 unfold As
 induction d.nums with
 |nil=>simp
 |cons a l ih=>
  have:(Es t a).length<=4:=by unfold Es;rw [zzt,Km];omega
  simp only [List.flatMap_cons,za,List.length_cons];omega
theorem ca.written {d:bp} (h:ca d) (t):(As t d).length<=67108864/\(wq d).length<=16777216/\(vj t d).length<=16777216:=by have h1:=aws t d;have h2:(wq d).length<=dk br d.names:=anz n8 br azo d.names;have h3:(vj t d).length<=dk ByteArray.size d.texts:=avs t d.texts 0;unfold ca ly at h;omega
theorem Ec {α:Type} {l:List α} {i:Nat} {c : α} (f : α->List UInt8) (h:l.drop i=c::l.drop (i+1)):(l.drop i).flatMap f=f c++(l.drop (i+1)).flatMap f:=by rw [h];rfl
theorem aas (c):(Et c).take 4=Et c:=rfl
theorem Uw (t) (c):(Et c).drop (4 - (du t).size).toNat=Es t c:=rfl
theorem age (t:UInt16) {l:List ByteArray} {i:Nat} {c:ByteArray} (h:l.drop i=c::l.drop (i+1)):te t i (l.drop i)=(if (t.toNat:Int)=16\/i=0 then [UInt8.ofNat c.size] else [])++c.data.toList++te t (i+1) (l.drop (i+1)):=by rw [h];rfl
theorem aBw (t:UInt16) (d:bp) (hd:ca d):wl PP [ada,aHw,avv,aFm] 0 (Tryz.f152.body.getD .skip) (di PP Tryz.f152.results.toList (fun r st=>(r1 (bw bt)).get false st.h r=some (qp t d))) (cj 0 [ct.val false t,ai.val false d]) (ay []):=by
 have hl:=hd.lens;have hk:=hd.written t;have hs:=Ez t;unfold Tryz.f152;simp only [jn,cr];simp only [↓wR,zV,simprocAttr,Kc,Kg];refine i9 [0,3,6,7,8,21,22,23,5] (fun (x:Nat × List UInt8)=>[.sc (.int .u16 t.toNat),.ptr 0 0,.sc (.slice none 0 0),.sc (.slice none 0 0),.ptr 1 0,.vl false 1 (d.nums.map (cy.val false)),.sc (.int .i64 (d.nums.length)),.sc (.int .i64 (x.1)),.sl 2 0 x.2.length 1]) (fun x=>[some (.row [.vl false 1 (d.names.map (au.val false)),.vl false 1 (d.nums.map (cy.val false)),.vl false 1 (d.texts.map (ah.val false)),.vl false 1 (d.raw.map (bt.val false))] 0 2 116),some (.row [.sc (.int .i64 (du t).names),.sc (.int .i64 (du t).nums),.sc (.int .i64 (du t).size),.sc (.int .i64 (du t).texts),.sc (.int .i64 (du t).raw)] 0 2 185),some (.row (x.2.map (bt.val false)) 0 0 5)]) (fun x=>x.1<=d.nums.length/\x.2++(d.nums.drop x.1).flatMap (Es t)=As t d) (fun x=>d.nums.length - x.1) (0,[]) ⟨zzb _,rfl⟩ (by simp only [↓wR,zV,simprocAttr];(refine kh.lax [] (by first|exact zB rfl|(simp [cz];omega)) ?_ ?_<;>repeat' first|exact ft.nil|exact cq.nil|exact gn.same _|exact gn.nil _ _ _|exact gn.qb _ _|exact cq.refl _ _|apply ft.cons|apply cq.ghost|apply cq.same|apply cq.row)) ?_;rintro ⟨i,x⟩ ⟨hi,hx⟩;simp only at hi hx;simp only [↓wR,zV,simprocAttr];rw [az];refine ⟨fun h=>?_,fun h=>?_⟩
 ·obtain ⟨c,hc,aH,hlt⟩:=fi (zp h);rw [Ec _ aH] at hx;have aV:x.length+(Es t c).length<=(As t d).length:=by rw [<- hx];simp
  repeat (first|simp only [↓wR,zV,simprocAttr,h,hc,Ue,Km,aas,Uw]|simp (disch:=omega) only [zW])
  exact ⟨(i+1,x++Es t c),⟨hlt,by rw [zzc];exact hx⟩,by simp;omega,zF,zF⟩
 rw [gz (zq h)] at hx;obtain rfl:x=As t d:=by simpa using hx
 clear hx;simp only [↓wR,zV,simprocAttr,h];obtain ⟨nu,wA⟩:∃ nu,As t d=nu:=⟨_,rfl⟩;rw [wA] at hk ⊢;refine i9 [0,3,7,38,39,40,5,6] (fun (x:Nat × List UInt8)=>[.sc (.int .u16 t.toNat),.ptr 0 0,.sc (.slice none 0 0),.vl false 1 (d.names.map (au.val false)),.sc (.int .i64 (d.names.length)),.sc (.int .i64 (x.1)),.sl 1 0 nu.length 1,.sl 2 0 x.2.length 1]) (fun x=>[some (.row [.vl false 1 (d.names.map (au.val false)),.vl false 1 (d.nums.map (cy.val false)),.vl false 1 (d.texts.map (ah.val false)),.vl false 1 (d.raw.map (bt.val false))] 0 2 116),some (.row (nu.map (bt.val false)) 0 0 5),some (.row (x.2.map (bt.val false)) 0 0 5)]) (fun x=>x.1<=d.names.length/\x.2++(d.names.drop x.1).flatMap n8=wq d) (fun x=>d.names.length - x.1) (0,[]) ⟨zzb _,rfl⟩ (by simp only [↓wR,zV,simprocAttr];(refine kh.lax [] (by first|exact zB rfl|(simp [cz];omega)) ?_ ?_<;>repeat' first|exact ft.nil|exact cq.nil|exact gn.same _|exact gn.nil _ _ _|exact gn.qb _ _|exact cq.refl _ _|apply ft.cons|apply cq.ghost|apply cq.same|apply cq.row)) ?_;clear h;rintro ⟨i,x⟩ ⟨hi,hx⟩;simp only at hi hx;simp only [↓wR,zV,simprocAttr];rw [az];refine ⟨fun h=>?_,fun h=>?_⟩
 ·obtain ⟨c,hc,aH,hlt⟩:=fi (zp h);rw [Ec _ aH] at hx;have aV:x.length+(n8 c).length<=(wq d).length:=by rw [<- hx];simp
  repeat (first|simp only [↓wR,zV,simprocAttr,h,hc,Ak,hd.name c (zm hc)]|simp (disch:=omega) only [zW])
  exact ⟨(i+1,x++n8 c),⟨hlt,by rw [zzc];exact hx⟩,by simp;omega,zF,zF⟩
 rw [gz (zq h)] at hx;obtain rfl:x=wq d:=by simpa using hx
 clear hx;simp only [↓wR,zV,simprocAttr,h];obtain ⟨na,nD⟩:∃ na,wq d=na:=⟨_,rfl⟩;rw [nD] at hk ⊢;refine i9 [0,3,54,55,56,5,6,7] (fun (x:Nat × List UInt8)=>[.sc (.int .u16 t.toNat),.ptr 0 0,.vl false 1 (d.texts.map (ah.val false)),.sc (.int .i64 (d.texts.length)),.sc (.int .i64 (x.1)),.sl 1 0 nu.length 1,.sl 2 0 na.length 1,.sl 3 0 x.2.length 1]) (fun x=>[some (.row [.vl false 1 (d.names.map (au.val false)),.vl false 1 (d.nums.map (cy.val false)),.vl false 1 (d.texts.map (ah.val false)),.vl false 1 (d.raw.map (bt.val false))] 0 2 116),some (.row (nu.map (bt.val false)) 0 0 5),some (.row (na.map (bt.val false)) 0 0 5),some (.row (x.2.map (bt.val false)) 0 0 5)]) (fun x=>x.1<=d.texts.length/\x.2++te t x.1 (d.texts.drop x.1)=vj t d) (fun x=>d.texts.length - x.1) (0,[]) ⟨zzb _,rfl⟩ (by simp only [↓wR,zV,simprocAttr];(refine kh.lax [] (by first|exact zB rfl|(simp [cz];omega)) ?_ ?_<;>repeat' first|exact ft.nil|exact cq.nil|exact gn.same _|exact gn.nil _ _ _|exact gn.qb _ _|exact cq.refl _ _|apply ft.cons|apply cq.ghost|apply cq.same|apply cq.row)) ?_;clear h;rintro ⟨i,x⟩ ⟨hi,hx⟩;simp only at hi hx;simp only [↓wR,zV,simprocAttr];rw [az];refine ⟨fun h=>?_,fun h=>?_⟩
 ·obtain ⟨c,hc,aH,hlt⟩:=fi (zp h);rw [age _ aH] at hx;have aV:x.length+((if (t.toNat:Int)=16\/i=0 then [UInt8.ofNat c.size] else []).length+c.size)<=(vj t d).length:=by rw [<- hx];simp
  have hcs:c.data.toList.length=c.size:=by simp
  repeat (first|simp only [↓wR,zV,simprocAttr,h,hc]|simp (disch:=omega) only [zW])
  have fin:∀ b:List UInt8,x++(b++c.data.toList++te t (i+1) (d.texts.drop (i+1)))=vj t d->x++b++c.data.toList++te t (i+1) (d.texts.drop (i+1))=vj t d:=fun b hb=>by rw [<- hb];simp
  rw [cp];refine ⟨fun ⟨mS,qV⟩=>?_,fun ⟨mS,qV⟩=>?_⟩
  ·rw [if_pos (.inl qV)] at hx aV;simp only [List.length_cons,List.length_nil] at aV
   repeat (first|simp only [↓wR,zV,simprocAttr,mS]|simp (disch:=omega) only [zW])
   exact ⟨(i+1,x++[UInt8.ofNat c.size]++c.data.toList),⟨hlt,fin _ hx⟩,by simp;omega,zF,zF⟩
  ·repeat (first|simp only [↓wR,zV,simprocAttr,mS]|simp (disch:=omega) only [zW])
   rw [cp];refine ⟨fun ⟨h0,e0⟩=>?_,fun ⟨h0,e0⟩=>?_⟩
   ·rw [if_pos (.inr zO)] at hx aV;simp only [List.length_cons,List.length_nil] at aV
    repeat (first|simp only [↓wR,zV,simprocAttr,h0]|simp (disch:=omega) only [zW])
    exact ⟨(i+1,x++[UInt8.ofNat c.size]++c.data.toList),⟨hlt,fin _ hx⟩,by simp;omega,zF,zF⟩
   ·rw [if_neg zO] at hx aV;simp only [List.length_nil] at aV
    repeat (first|simp only [↓wR,zV,simprocAttr,h0]|simp (disch:=omega) only [zW])
    exact ⟨(i+1,x++c.data.toList),⟨hlt,by have:=fin _ hx;simpa using this⟩,by simp;omega,zF,zF⟩
 rw [gz (zq h)] at hx;obtain rfl:x=vj t d:=by simpa [te] using hx
 clear hx
 repeat (first|simp only [↓wR,zV,simprocAttr,h]|simp (disch:=omega) only [zW])
 unfold qp;rw [wA,nD];rw [cp];refine ⟨fun ⟨h6,e6⟩=>?_,fun ⟨h6,e6⟩=>?_⟩
 ·rw [if_pos e6]
  repeat (first|simp only [↓wR,zV,simprocAttr,h6]|simp (disch:=omega) only [zW])
 ·rw [if_neg e6];have uF:nu.length+(na.length+((vj t d).length+d.raw.length))<=134217728:=zO
  repeat (first|simp only [↓wR,zV,simprocAttr,h6,Gm,uF]|simp (disch:=omega) only [zW])
  rw [<- zzw,<- zzw,<- zzw];exact Ah bt false _ false _ _ rfl rfl
noncomputable def Aj (x:UInt16 × bp × Unit):Option AV:=if ca x.2.1 then some ((r1 (bw bt)).E false (qp x.1 x.2.1)) else none
theorem Kx (x:UInt16 × bp × Unit) (r:AV) (h:Aj x=some r):bo PP 152 ((aC ct (aC ai a0)).E x) r:=by obtain ⟨hc,rfl⟩:=zI h;exact bf (ak.cons (aq Jz) (ak.cons (aq ao6) (ak.cons (aq aa0) (ak.cons (aq al2) (ak.nil PP))))) Tryz.func152 zK zK zK zL (r1 (bw bt)) false (qp x.1 x.2.1) (aBw x.1 x.2.1 hc)
noncomputable abbrev Zz:Nat × Bool × (List AV->M AV):=(152,true,dg (aC ct (aC ai a0)) Aj)
theorem aow (d:bp) (hd:ca d):wl PP [aib,alr,aqr,nc] 0 (Tryz.f120.body.getD .skip) (di PP Tryz.f120.results.toList (fun r st=>(r1 ai).get true st.h r=some d)) (cj 0 [ai.val false d]) (ay []):=by
 have hl:=hd.lens;have l2:=hl.2.1;have l3:=hl.2.2.1;have l4:=hl.2.2.2;unfold Tryz.f120;simp only [jn,cr];simp only [↓wR,zV,simprocAttr];refine ⟨zK,.inl ?_⟩;simp only [↓wR,zV,simprocAttr,Dn,Cy,F5,l2,l3,l4];refine ⟨zK,?_⟩;refine i9 [2,17,18,19,3] (fun (x:List Name)=>[.ptr 0 0,.vl false 1 (d.names.map (au.val false)),.sc (.int .i64 (d.names.length)),.sc (.int .i64 (x.length)),.ptr 1 0]) (fun x=>[some (.row [.sc (.slice none 0 0),.sc (.slice none 0 0),.sc (.slice none 0 0),.sc (.slice none 0 0)] 0 2 116),some (.row [.sl 2 0 x.length 1,.vl true 1 (d.nums.map (cy.val false)),.vl true 1 (d.texts.map (ah.val false)),.vl true 1 (d.raw.map (bt.val false))] 0 2 116),some (.row (x.map (au.val true)) 0 0 23)]) (fun x=>x.length<=d.names.length/\x++d.names.drop x.length=d.names) (fun x=>d.names.length - x.length) [] ⟨zzb _,rfl⟩ (by simp only [↓wR,zV,simprocAttr];(refine kh.lax [] (by first|exact zB rfl|(simp [cz];omega)) ?_ ?_<;>repeat' first|exact ft.nil|exact cq.nil|exact gn.same _|exact gn.nil _ _ _|exact gn.qb _ _|exact cq.refl _ _|apply ft.cons|apply cq.ghost|apply cq.same|apply cq.row)) ?_;rintro x ⟨hi,hx⟩;simp only [↓wR,zV,simprocAttr];rw [az];refine ⟨fun h=>?_,fun h=>?_⟩
 ·obtain ⟨c,hc,aH,hlt⟩:=fi (zp h);rw [aH] at hx;have aD:(x.length+1) * 24<=140737488355328:=zO;simp only [↓wR,zV,simprocAttr,h,hc];refine ⟨zK,.inl ?_⟩;simp only [↓wR,zV,simprocAttr,rm,hd.name c (zm hc),aD];refine ⟨zK,?_⟩;exact ⟨x++[c],⟨by simp;omega,by simpa using hx⟩,by simp;omega,zF,zF⟩
 ·rw [gz (zq h)] at hx;rw [zzn] at hx;subst hx;simp only [↓wR,zV,simprocAttr,h]
noncomputable def u0 (x:bp × Unit):Option AV:=if ca x.1 then some ((r1 ai).E true (x.1)) else none
theorem H8 (x:bp × Unit) (r:AV) (h:u0 x=some r):bo PP 120 ((aC ai a0).E x) r:=by obtain ⟨hc,rfl⟩:=zI h;exact bf (ak.cons (aq Ps) (ak.cons (aq Qg) (ak.cons (aq Sv) (ak.cons (aq ua) (ak.nil PP))))) Tryz.func120 zK zK zK zL (r1 ai) true (x.1) (aow x.1 hc)
noncomputable abbrev qg:Nat × Bool × (List AV->M AV):=(120,true,dg (aC ai a0) u0)
def ve {α:Type} (f : α -> α) (l:List α) (i:Nat):List α:=(l.take i).map f++l.drop i
theorem atk {α:Type} (f : α -> α) (l:List α) (i:Nat):(ve f l i).length=l.length:=by simp [ve];omega
theorem asw {α:Type} (f : α -> α) {l:List α} {i:Nat} {c : α} (h:l[i]? = some c):(ve f l i)[i]? = some c:=by
 obtain ⟨hi,rfl⟩:=zg.1 h;have hl:((l.take i).map f).length=i:=by simp;omega
 rw [ve,zzd zO,hl,Nat.sub_self,zz6];simp [h]
theorem atm {α:Type} (f : α -> α) {l:List α} {i:Nat} {c : α} (h:l[i]? = some c):(ve f l i).take i++[f c]++(ve f l i).drop (i+1)=ve f l (i+1):=by
 obtain ⟨hi,rfl⟩:=zg.1 h;have h1:((l.take i).map f).length=i:=by simp;omega
 have h2:(ve f l i).take i=(l.take i).map f:=by rw [ve,List.take_append_of_le_length zO,zzp zO]
 have h3:(ve f l i).drop (i+1)=l.drop (i+1):=by rw [ve,List.drop_append,zzx zO,h1];simp
 rw [h2,h3,ve,zz5 hi,zzw];rfl
theorem as1 {α:Type} (f : α -> α) (l:List α):ve f l l.length=l.map f:=by simp [ve]
noncomputable def k5 (t:UInt16) (d:bp):bp:=if 0<(du t).names then { d with names:=d.names.map fv } else d
theorem aph (t:UInt16) (d:bp) (hd:ca d):wl PP [ada,aik] 0 (Tryz.f180.body.getD .skip) (di PP Tryz.f180.results.toList (fun r st=>(r1 ai).get true st.h r=some (k5 t d))) (cj 0 [ct.val false t,ai.val false d]) (ay []):=by
 have hl:=hd.lens;have l2:=hl.2.1;have l3:=hl.2.2.1;have l4:=hl.2.2.2;unfold Tryz.f180;simp only [jn,cr];simp only [↓wR,zV,simprocAttr];refine cb (T:=[aib,alr,aqr,nc]) (ak.cons (aq Ps) (ak.cons (aq Qg) (ak.cons (aq Sv) (ak.cons (aq ua) (ak.nil PP))))) mixed Tryz.func120 rfl zK zK zK zK ?_;unfold Tryz.f120;simp only [↓wR,zV,simprocAttr];refine ⟨zK,.inl ?_⟩;simp only [↓wR,zV,simprocAttr,Dn,Cy,F5,l2,l3,l4];refine ⟨zK,?_⟩;refine i9 [2,17,18,19,3] (fun (x:List Name)=>[.ptr 2 0,.vl false 1 (d.names.map (au.val false)),.sc (.int .i64 (d.names.length)),.sc (.int .i64 (x.length)),.ptr 3 0]) (fun x=>[some (.row [.vl false 1 (d.names.map (au.val false)),.vl false 1 (d.nums.map (cy.val false)),.vl false 1 (d.texts.map (ah.val false)),.vl false 1 (d.raw.map (bt.val false))] 0 2 116),some (.row [.sc (.slice none 0 0),.sc (.slice none 0 0),.sc (.slice none 0 0),.sc (.slice none 0 0)] 0 2 116),some (.row [.sc (.slice none 0 0),.sc (.slice none 0 0),.sc (.slice none 0 0),.sc (.slice none 0 0)] 0 2 116),some (.row [.sl 4 0 x.length 1,.vl true 1 (d.nums.map (cy.val false)),.vl true 1 (d.texts.map (ah.val false)),.vl true 1 (d.raw.map (bt.val false))] 0 2 116),some (.row (x.map (au.val true)) 0 0 23)]) (fun x=>x.length<=d.names.length/\x++d.names.drop x.length=d.names) (fun x=>d.names.length - x.length) [] ⟨zzb _,rfl⟩ (by simp only [↓wR,zV,simprocAttr];(refine kh.lax [] (by first|exact zB rfl|(simp [cz];omega)) ?_ ?_<;>repeat' first|exact ft.nil|exact cq.nil|exact gn.same _|exact gn.nil _ _ _|exact gn.qb _ _|exact cq.refl _ _|apply ft.cons|apply cq.ghost|apply cq.same|apply cq.row)) ?_;rintro x ⟨hi,hx⟩;simp only [↓wR,zV,simprocAttr];rw [az];refine ⟨fun h=>?_,fun h=>?_⟩
 ·obtain ⟨c,hc,aH,hlt⟩:=fi (zp h);rw [aH] at hx;have aD:(x.length+1) * 24<=140737488355328:=zO;simp only [↓wR,zV,simprocAttr,h,hc];refine ⟨zK,.inl ?_⟩;simp only [↓wR,zV,simprocAttr,rm,hd.name c (zm hc),aD];refine ⟨zK,?_⟩;exact ⟨x++[c],⟨by simp;omega,by simpa using hx⟩,by simp;omega,zF,zF⟩
 rw [gz (zq h)] at hx;rw [zzn] at hx;subst hx;simp only [↓wR,zV,simprocAttr,h,Kc,Kg];unfold k5;clear hi h;rw [az];refine ⟨fun h0=>?_,fun h0=>?_⟩
 ·rw [if_pos h0];simp only [↓wR,zV,simprocAttr,h0];refine da [4,5,15,16,17] (fun (i:Nat)=>[.ptr 0 0,.ptr 1 0,.sl 2 0 d.names.length 1,.sc (.int .i64 (d.names.length)),.sc (.int .i64 (i))]) (fun i=>[some (.row [.sc (.slice none 0 0),.sc (.slice none 0 0),.sc (.slice none 0 0),.sc (.slice none 0 0)] 0 2 116),some (.row [.sl 2 0 d.names.length 1,.vl true 1 (d.nums.map (cy.val false)),.vl true 1 (d.texts.map (ah.val false)),.vl true 1 (d.raw.map (bt.val false))] 0 2 116),some (.row ((ve fv d.names i).map (au.val true)) 0 0 23)]) (fun i=>i<=d.names.length) (fun i=>d.names.length - i) 0 (zzb _) (by simp only [↓wR,zV,simprocAttr]<;>rfl) (by simp only [↓wR,zV,simprocAttr]<;>rfl) ?_;intro i hi;simp only [↓wR,zV,simprocAttr];rw [az];refine ⟨fun h=>?_,fun h=>?_⟩
  ·obtain ⟨c,hc,aH,hlt⟩:=fi (zp h);have hs:=asw fv hc;have hlen:=atk fv d.names i;have gI:i+1<=d.names.length:=hlt;simp only [↓wR,zV,simprocAttr,h,hs,hlt];refine ⟨zK,.inl ?_⟩;simp only [↓wR,zV,simprocAttr,h,hlt,gI,hlen,Dq,hd.name c (zm hc)];refine ⟨zK,i+1,hlt,zO,zF,?_⟩;rw [<- atm fv hc];simp only [zzw,List.map_cons,List.map_nil]
  ·have hin:i=d.names.length:=zO;subst hin;rw [as1];have cS:(d.names.map fv).length=d.names.length:=zzo _;generalize d.names.map fv=m at cS ⊢;simp only [↓wR,zV,simprocAttr,h,cS];rfl
 ·rw [if_neg h0];simp only [↓wR,zV,simprocAttr,h0]
noncomputable def Hj (x:UInt16 × bp × Unit):Option AV:=if ca x.2.1 then some ((r1 ai).E true (k5 x.1 x.2.1)) else none
theorem agq (x:UInt16 × bp × Unit) (r:AV) (h:Hj x=some r):bo PP 180 ((aC ct (aC ai a0)).E x) r:=by obtain ⟨hc,rfl⟩:=zI h;exact bf (ak.cons (aq Jz) (ak.cons (aq Py) (ak.nil PP))) Tryz.func180 zK zK zK zL (r1 ai) true (k5 x.1 x.2.1) (aph x.1 x.2.1 hc)
noncomputable abbrev aBg:Nat × Bool × (List AV->M AV):=(180,true,dg (aC ct (aC ai a0)) Hj)
def ny:List Name->Int
 | []=>0
 |n::r=>if cg n≠0 then cg n else ny r
noncomputable def c8 (t:UInt16) (d:bp):Int:=
 if qq t=true then 6 else if xo (du t) t d=false then 7 else if ny d.names≠0 then ny d.names else if 65535<(qp t d).length then 3 else 0
theorem Vw {l:List Name} {i:Nat} {c:Name} (h:l.drop i=c::l.drop (i+1)):ny (l.drop i)=if cg c≠0 then cg c else ny (l.drop (i+1)):=by rw [h];rfl
theorem anc (t:UInt16) (d:bp) (hd:ca d):wl PP [aIk,ada,aK6,fh,Zz] 0 (Tryz.f117.body.getD .skip) (di PP Tryz.f117.results.toList (fun r st=>(r1 (bh .i64)).get true st.h r=some (c8 t d))) (cj 0 [ct.val false t,ai.val false d]) (ay []):=by
 have hs:=Ez t;have hl:=hd.lens;unfold Tryz.f117;simp only [jn,cr];simp only [↓wR,zV,simprocAttr,abw];unfold c8;rw [dv];refine ⟨fun hb=>?_,fun hb=>?_⟩
 ·rw [if_pos hb];simp only [↓wR,zV,simprocAttr,hb]
 rw [if_neg (by rw [hb];decide)];simp only [↓wR,zV,simprocAttr,hb];refine ⟨zK,.inl ?_⟩;simp only [↓wR,zV,simprocAttr,Kc,Sm,hs,hd];refine ⟨zK,?_⟩;rw [dv];refine ⟨fun hf=>?_,fun hf=>?_⟩
 ·rw [if_pos (by simpa using hf)];simp only [↓wR,zV,simprocAttr,hf]
 have hf':xo (du t) t d=true:=by simpa using hf
 rw [if_neg (by rw [hf'];decide)];simp only [↓wR,zV,simprocAttr,hf];refine da [0,3,17,18,19] (fun (i:Nat)=>[.sc (.int .u16 t.toNat),.ptr 0 0,.vl false 1 (d.names.map (au.val false)),.sc (.int .i64 (d.names.length)),.sc (.int .i64 (i))]) (fun _=>[some (.row [.vl false 1 (d.names.map (au.val false)),.vl false 1 (d.nums.map (cy.val false)),.vl false 1 (d.texts.map (ah.val false)),.vl false 1 (d.raw.map (bt.val false))] 0 2 116)]) (fun i=>i<=d.names.length/\ny d.names=ny (d.names.drop i)) (fun i=>d.names.length - i) 0 ⟨zzb _,rfl⟩ (by simp only [↓wR,zV,simprocAttr]<;>rfl) (by simp only [↓wR,zV,simprocAttr]<;>rfl) ?_;rintro i ⟨hi,hx⟩;simp only [↓wR,zV,simprocAttr];rw [az];refine ⟨fun h=>?_,fun h=>?_⟩
 ·obtain ⟨c,hc,aH,hlt⟩:=fi (zp h);rw [Vw aH] at hx;simp only [↓wR,zV,simprocAttr,h,hc,j7,(hd.name c (zm hc)).fit];rw [dv];refine ⟨fun h1=>?_,fun h1=>?_⟩
  ·have he:cg c≠0:=by simpa using h1
   rw [if_pos he] at hx;rw [if_pos (by rw [hx];exact he),hx];simp only [↓wR,zV,simprocAttr,h1]
  ·have he:cg c=0:=by simpa using h1
   rw [if_neg zO] at hx
   repeat (first|simp only [↓wR,zV,simprocAttr,h1]|simp (disch:=omega) only [zW])
   exact ⟨i+1,⟨hlt,hx⟩,zO,zF⟩
 rw [gz (zq h)] at hx;rw [if_neg (by rw [hx];decide)];simp only [↓wR,zV,simprocAttr,h,Aj,hd];rw [az];refine ⟨fun h2=>?_,fun h2=>?_⟩
 ·rw [if_pos zO];simp only [↓wR,zV,simprocAttr,h2]
 ·rw [if_neg zO];simp only [↓wR,zV,simprocAttr,h2]
noncomputable def kq (x:UInt16 × bp × Unit):Option AV:=if ca x.2.1 then some ((r1 (bh .i64)).E true (c8 x.1 x.2.1)) else none
theorem x5 (x:UInt16 × bp × Unit) (r:AV) (h:kq x=some r):bo PP 117 ((aC ct (aC ai a0)).E x) r:=by obtain ⟨hc,rfl⟩:=zI h;exact bf (ak.cons (aq apl) (ak.cons (aq Jz) (ak.cons (aq asn) (ak.cons (aq u7) (ak.cons (aq Kx) (ak.nil PP)))))) Tryz.func117 zK zK zK zL (r1 (bh .i64)) true (c8 x.1 x.2.1) (anc x.1 x.2.1 hc)
noncomputable abbrev ml:Nat × Bool × (List AV->M AV):=(117,true,dg (aC ct (aC ai a0)) kq)
noncomputable def ri (t:UInt16) (d:bp):List UInt8:=if c8 t d≠0 then [] else qp t d
theorem am8 (t:UInt16) (d:bp) (hd:ca d):wl PP [ml,Zz] 0 (Tryz.f179.body.getD .skip) (di PP Tryz.f179.results.toList (fun r st=>(r2 (bw bt) (bh .i64)).get false st.h r=some (ri t d,c8 t d))) (cj 0 [ct.val false t,ai.val false d]) (ay []):=by
 unfold Tryz.f179;simp only [jn,cr];simp only [↓wR,zV,simprocAttr,kq,hd];unfold ri;rw [dv];refine ⟨fun h=>?_,fun h=>?_⟩
 ·have he:c8 t d≠0:=by simpa using h
  rw [if_pos he];simp only [↓wR,zV,simprocAttr,h]
 ·have he:c8 t d=0:=by simpa using h
  rw [if_neg zO];simp only [↓wR,zV,simprocAttr,h,Aj,hd,he]
noncomputable def E0 (x:UInt16 × bp × Unit):Option AV:=if ca x.2.1 then some ((r2 (bw bt) (bh .i64)).E false ((ri x.1 x.2.1,c8 x.1 x.2.1))) else none
theorem ac5 (x:UInt16 × bp × Unit) (r:AV) (h:E0 x=some r):bo PP 179 ((aC ct (aC ai a0)).E x) r:=by obtain ⟨hc,rfl⟩:=zI h;exact bf (ak.cons (aq x5) (ak.cons (aq Kx) (ak.nil PP))) Tryz.func179 zK zK zK zL (r2 (bw bt) (bh .i64)) false ((ri x.1 x.2.1,c8 x.1 x.2.1)) (am8 x.1 x.2.1 hc)
noncomputable abbrev az1:Nat × Bool × (List AV->M AV):=(179,true,dg (aC ct (aC ai a0)) E0)
theorem awl (args:List AV):Dz PP 203 args (Cx.oh args):=
 Cx.Kb (fn:=(PP.funcs[203]?).getD default) zK zK zK zK zK args
noncomputable abbrev aI8:Nat × Bool × (List AV->M AV):=(203,true,Cx.oh)
theorem aG1:ak PP [aI8]:=ak.cons awl (ak.nil PP)
noncomputable def Jq (a b:List UInt8):Int:=Lib.compareBytes a b
theorem Xy (a b:List UInt8):wl PP [aI8] 0 (Tryz.f181.body.getD .skip) (di PP Tryz.f181.results.toList (fun r st=>(r1 (bh .i64)).get true st.h r=some (Jq a b))) (cj 0 [(bw bt).val false a,(bw bt).val false b]) (ay []):=by unfold Tryz.f181;simp only [nv];simp only [↓wR,zV,simprocAttr,Jq]
noncomputable def Cf (x:List UInt8 × List UInt8 × Unit):Option AV:=some ((r1 (bh .i64)).E true (Jq x.1 x.2.1))
theorem Uy (x:List UInt8 × List UInt8 × Unit) (r:AV) (h:Cf x=some r):bo PP 181 ((aC (bw bt) (aC (bw bt) a0)).E x) r:=by cases h;exact bf aG1 Tryz.func181 zK zK zK zL (r1 (bh .i64)) true (Jq x.1 x.2.1) (Xy x.1 x.2.1)
noncomputable abbrev aiu:Nat × Bool × (List AV->M AV):=(181,true,dg (aC (bw bt) (aC (bw bt) a0)) Cf)
theorem C8 (s:ByteArray):(fold s).size=s.size:=by show (s.data.toList.map low).toArray.size=s.data.size;simp
theorem Bn (n:Name):br (fv n)=br n:=by unfold br fv;rw [List.foldl_map];simp only [C8]
theorem ay1 (l:List Name):dk br (l.map fv)=dk br l:=by
 induction l with
 |nil=>rfl
 |cons a l ih=>simp only [dk,List.map_cons,List.foldr_cons,Bn] at ih ⊢;rw [ih]
theorem ca.fold {d:bp} (h:ca d) (t:UInt16):ca (k5 t d):=by
 unfold k5
 split
 ·unfold ca ly at *;simp only [ay1];exact h
 ·exact h
noncomputable def yu (t:UInt16) (a b:bp):Int:=if c8 t (k5 t a)≠0\/c8 t (k5 t b)≠0 then 0 else Jq (ri t (k5 t a)) (ri t (k5 t b))
noncomputable def Av (t:UInt16) (a b:bp):Bool:=decide (c8 t a=0) && decide (c8 t b=0) && decide (yu t a b=0)
theorem abx (t:UInt16) (a b:bp) (ha:ca a) (hb:ca b):wl PP [aBg,az1,aiu] 0 (Tryz.f140.body.getD .skip) (di PP Tryz.f140.results.toList (fun r st=>(r1 (bh .i64)).get true st.h r=some (yu t a b))) (cj 0 [ct.val false t,ai.val false a,ai.val false b]) (ay []):=by
 have fa:=ha.fold t;have fb:=hb.fold t;unfold Tryz.f140;simp only [jn,cr];simp only [↓wR,zV,simprocAttr,Hj,E0,Cf,ha,hb,fa,fb];unfold yu;rw [dv];refine ⟨fun h=>?_,fun h=>?_⟩
 ·have he:c8 t (k5 t a)≠0:=by simpa using h
  rw [if_pos (.inl he)];simp only [↓wR,zV,simprocAttr,h]
 have he:c8 t (k5 t a)=0:=by simpa using h
 simp only [↓wR,zV,simprocAttr,h];rw [dv];refine ⟨fun h2=>?_,fun h2=>?_⟩
 ·have rL:c8 t (k5 t b)≠0:=by simpa using h2
  rw [if_pos (.inr rL)];simp only [↓wR,zV,simprocAttr,h2]
 ·have rL:c8 t (k5 t b)=0:=by simpa using h2
  rw [if_neg zO];simp only [↓wR,zV,simprocAttr,h2,Cf]
noncomputable def pv (x:UInt16 × bp × bp × Unit):Option AV:=if ca x.2.1/\ca x.2.2.1 then some ((r1 (bh .i64)).E true (yu x.1 x.2.1 x.2.2.1)) else none
theorem Cw (x:UInt16 × bp × bp × Unit) (r:AV) (h:pv x=some r):bo PP 140 ((aC ct (aC ai (aC ai a0))).E x) r:=by obtain ⟨hc,rfl⟩:=zI h;exact bf (ak.cons (aq agq) (ak.cons (aq ac5) (ak.cons (aq Uy) (ak.nil PP)))) Tryz.func140 zK zK zK zL (r1 (bh .i64)) true (yu x.1 x.2.1 x.2.2.1) (abx x.1 x.2.1 x.2.2.1 hc.1 hc.2)
noncomputable abbrev Gy:Nat × Bool × (List AV->M AV):=(140,true,dg (aC ct (aC ai (aC ai a0))) pv)
theorem anv (t:UInt16) (a b:bp) (ha:ca a) (hb:ca b):wl PP [ml,Gy] 0 (Tryz.f159.body.getD .skip) (di PP Tryz.f159.results.toList (fun r st=>(r1 bq).get true st.h r=some (Av t a b))) (cj 0 [ct.val false t,ai.val false a,ai.val false b]) (ay []):=by
 unfold Tryz.f159;simp only [jn,cr];simp only [↓wR,zV,simprocAttr,kq,ha,hb];unfold Av;rw [cp];refine ⟨fun ⟨h,e⟩=>?_,fun ⟨h,e⟩=>?_⟩
 ·rw [zp e];simp only [↓wR,zV,simprocAttr,h,kq,ha,hb];rw [cp];refine ⟨fun ⟨h2,e2⟩=>?_,fun ⟨h2,e2⟩=>?_⟩
  ·rw [zp e2];simp only [↓wR,zV,simprocAttr,h2,pv,ha,hb];rfl
  ·rw [zq e2];simp only [↓wR,zV,simprocAttr,h2];rfl
 ·rw [zq e];simp only [↓wR,zV,simprocAttr,h];rfl
noncomputable def Hf (x:UInt16 × bp × bp × Unit):Option AV:=if ca x.2.1/\ca x.2.2.1 then some ((r1 bq).E true (Av x.1 x.2.1 x.2.2.1)) else none
theorem ag7 (x:UInt16 × bp × bp × Unit) (r:AV) (h:Hf x=some r):bo PP 159 ((aC ct (aC ai (aC ai a0))).E x) r:=by obtain ⟨hc,rfl⟩:=zI h;exact bf (ak.cons (aq x5) (ak.cons (aq Cw) (ak.nil PP))) Tryz.func159 zK zK zK zL (r1 bq) true (Av x.1 x.2.1 x.2.2.1) (anv x.1 x.2.1 x.2.2.1 hc.1 hc.2)
noncomputable abbrev aB9:Nat × Bool × (List AV->M AV):=(159,true,dg (aC ct (aC ai (aC ai a0))) Hf)
end Go.Proofs.YtjagjbceegbaiaaGreat
end
section
namespace Go.Vm
variable [TK]
noncomputable section
theorem Nr {α:Type} (C:er α) (fr:Bool) (h:Tr bk) (l:List AV) (ha:C.agg=true):C.dec fr h l=C.j9 fr h (.agg l):=by rw [Cn _ _ _ _ rfl (by rw [ha];rfl)];rfl
theorem atp {α β:Type} (A:er α) (B:er β) (fr:Bool) (h:Tr bk) (l:List AV):(mi A B).dec fr h l=match A.dec fr h (l.take A.sz),B.dec fr h (l.drop A.sz) with|some x,some y=>some (x,y)|_,_=>none:=rfl
theorem ahg {α:Type} (C:er α) (fr h) (x:AV):(bw C).dec fr h [x]=kl C fr h x:=rfl
theorem ahe (fr h) (x:AV):au.dec fr h [x]=kl ah fr h x:=rfl
theorem ave {P:Program} {T:fp} {l:Nat} {bg:Nat} {L:SL} {st:St} {Q:QI} {ps:List Tmp} {ra rb:Code} {L0:SL} {α:Type} {b:Code} (keep:List Nat) (V : α->List AV) (O : α->List (Option bk)) (I : α->Prop) (μ : α->Nat) (x : α) (hx:I x)
 (hv:kh bg (dq bg keep L st) (gk bg keep L st) (V x) (O x))
 (step:∀ x,I x->ui P T l (sm ps (fun p=>wl P T p ra) (fun p=>wl P T p rb) L0) bg b (Ew (ou bg keep (fun vs os=>∃ y,I y /\ μ y < μ x/\vs=V y/\os=O y) (fun _ _ _=>False)) Q) none (fm keep (V x)) (ay (O x))):ui P T l (sm ps (fun p=>wl P T p ra) (fun p=>wl P T p rb) L0) bg (.loop b) Q none L st:=by
 have mono:∀ (Q1 Q2:QL),(∀ e L st,Q1 e L st->Q2 e L st)->∀ L st,ui P T l (sm ps (fun p=>wl P T p ra) (fun p=>wl P T p rb) L0) bg b (Ew Q1 Q) none L st->ui P T l (sm ps (fun p=>wl P T p ra) (fun p=>wl P T p rb) L0) bg b (Ew Q2 Q) none L st:=fun Q1 Q2 h L st hh=>Wv (Vd P T) b _ _ (fun e pe L st q=>by
  cases e with
  |normal=>exact ⟨q.1,h _ _ _ q.2⟩
  |ret=>exact q
  |exit i=>exact q) none L st hh
 refine ⟨rfl,xn.aA4 (B:=fun Q' L st=>ui P T l _ bg b (Ew Q' Q) none L st) keep V O I μ x hx hv mono (fun x hi=>mono _ _ (fun e L' st' hq=>?_) _ _ (step x hi))⟩;cases e with
 |normal=>
  obtain ⟨y,h1,h2,h3,h4⟩:=hq;refine ⟨y,h1,h2,?_⟩;rw [h3,h4];exact .refl _ _ _
 |exit i=>exact hq.elim
 |ret=>exact hq.elim
theorem Qh (k fr h n cells kk st et) (hn:n=cells.length) (hro:yc fr st 1 (.int k) et=true):lg (bh k) fr h 0 n (.row cells kk st et)=vo (bh k) fr h cells:=Bk (bh k) rfl fr h n cells kk st et hn hro
def ig (n:Nat) (r:AV) (st:St):List Nat:=reach st.h gu (r.names++sw st.h (ff 0 n)) (ff 0 n)
def i4 (n:Nat) (r:AV) (st:St):AV:=r.cx (fun o=>idx (ig n r st) o 0)
def ir (n:Nat) (r:AV) (st:St):St:=ay (ky st.h (fun o=>idx (ig n r st) o 0) (ig n r st))
theorem ar4 {g g':Gh} {st st':St} {w w':World} {r:AV} {v:Value} (hn:st.nx<=1000) (hfr:∀ o,st.nx<=o->g.inj o=none) (hs:Step g st.h w st.nx st'.nx g' st'.h w') (aB:Ok g' st'.h w') (hr:Rel g' w' r v) :
 ∃ g'',st.nx<=(ir st.nx r st').nx/\Step g st.h w st.nx (ir st.nx r st').nx g'' (ir st.nx r st').h w'/\Ok g'' (ir st.nx r st').h w'/\Rel g'' w' (i4 st.nx r st') v:=by
 have hN:=C5 st'.h gu (r.names++sw st'.h (ff 0 st.nx)) (ff 0 st.nx) (vh _ _);change (ig st.nx r st').Nodup/\(∃ q,ig st.nx r st'=ff 0 st.nx++q)/\(ig st.nx r st').length<=_ at hN;have hτ:∀ o p,(fun o=>idx (ig st.nx r st') o 0) o=some p->(ig st.nx r st')[p]? = some o:=fun o p h=>I4 _ o p h
 unfold ir i4;generalize ig st.nx r st'=N at hN hτ;obtain ⟨cR,⟨rest,hpre⟩,hlen⟩:=hN;rw [j8] at hlen;have aD:N.length<=cz:=by simp only [gu,cz] at *;omega
 have fk:∀ i x,(ay (ky st'.h (fun o=>idx N o 0) N)).h.get i=some x->∃ o y,N[i]? = some o/\st'.h.get o=some y/\y.cx (fun o=>idx N o 0)=some x:=by
  intro i x hx;simp only [ay] at hx;rw [wo _ _ _ (by rw [kb];omega),if_pos (zzb _),Nat.sub_zero,yj] at hx;cases hi:N[i]? with
  |none=>rw [hi] at hx;cases hx
  |some o=>
   rw [hi] at hx;simp only [Option.map_some,Option.join_some] at hx;cases hy:st'.h.get o with
   |none=>rw [hy] at hx;cases hx
   |some y=>rw [hy] at hx;exact ⟨o,y,rfl,hy,hx⟩
 have aO:∀ i o,N[i]? = some o->(g'.cx N).inj i=g'.inj o:=fun i o h=>by simp [Gh.cx,h]
 have bJ:∀ o,o<st.nx->N[o]? = some o:=fun o ho=>by rw [hpre,zzi (by rw [j8];exact ho),Bl _ _ _ ho,Nat.zero_add]
 have bN:(ay (ky st'.h (fun o=>idx N o 0) N)).nx=N.length:=by simp only [ay,kb]
 have hle:st.nx<=N.length:=by rw [hpre,za,j8];omega
 rw [bN];refine ⟨g'.cx N,hle,⟨⟨hs.ext.b0,fun o p ho=>?_,hs.ext.K,hs.ext.cell,hs.ext.ju,hs.ext.lp,hs.ext.whole⟩,hs.size,hs.os,hs.tape,hs.output,hs.frame,fun o ho hr=>?_,fun i b base hi hj=>?_,hs.o0⟩,⟨aB.size,fun i x hx=>?_,fun i j x y b base base' cJ hx hy hb hb'=>?_,aB.K⟩,hr.cx hτ⟩
 ·have hlt:o<st.nx:=by
   rcases zyh o st.nx with h|h
   ·exact h
   ·rw [hfr o h] at ho;cases ho
  rw [aO o o (bJ o hlt)];exact hs.ext.inj o p ho
 ·rcases zyh o st.nx with h|h
  ·rw [aO o o (bJ o h)];exact hs.fresh o ho zO
  ·simp [Gh.cx,zzy (show N.length<=o by omega)]
 ·obtain ⟨x,hx⟩:=zzv.1 hi;obtain ⟨o,y,h1,h2,_⟩:=fk i x hx;rw [aO i o h1] at hj;exact hs.own o b base (by rw [h2];rfl) hj
 ·obtain ⟨o,y,h1,h2,h3⟩:=fk i x hx;refine (aB.px o y h2).imp (fun q=>⟨by rw [aO i o h1];exact q.1,by obtain ⟨s0,e0,rfl⟩:=q.2;simp only [bk.cx,AV.cx.go,Option.some.injEq] at h3;exact ⟨s0,e0,h3.symm⟩⟩) ?_;rintro ⟨b,base,q1,q2,q3⟩;exact ⟨b,base,by rw [aO i o h1];exact q1,q2,q3.cx hτ h3⟩
 ·obtain ⟨o,y1,h1,h2,_⟩:=fk i x hx;obtain ⟨o',y2,h1',h2',_⟩:=fk j y hy;rw [aO i o h1] at hb;rw [aO j o' h1'] at hb';have hne:o≠o':=by
   intro e;subst e;obtain ⟨hi,ei⟩:=zg.1 h1;obtain ⟨hj,ej⟩:=zg.1 h1';exact cJ ((List.getElem_inj cR).1 (ei.trans ej.symm))
  exact aB.sep o o' _ _ b base base' hne h2 h2' hb hb'
theorem dr {P:Program} {f:Nat} {args:List AV} {st:St} {R:AV->St->Prop} (R0:AV->St->Prop) (hn:Nat.ble st.nx 1000=true) (h1:iz P f args st (fun r st'=>R0 (i4 st.nx r st') (ir st.nx r st'))) (h2:∀ r st',R0 r st'->R r st'):iz P f args st R:=by
 intro g w vs aB hfr hrel;rcases h1 g w vs aB hfr hrel with ⟨v,w',g',r,st',q1,q2,q3,q4,q5,q6⟩|⟨q1,q2⟩
 ·obtain ⟨g'',p1,p2,p3,p4⟩:=ar4 (zB hn) hfr q4 q5 q6;exact .inl ⟨v,w',g'',_,_,q1,h2 _ _ q2,p1,p2,p3,p4⟩
 ·refine .inr ⟨q1,q2.mono ?_⟩;rintro e w' ⟨v,g',r,st',rfl,q2,q3,q4,q5,q6⟩;obtain ⟨g'',p1,p2,p3,p4⟩:=ar4 (zB hn) hfr q4 q5 q6;exact ⟨v,g'',_,_,rfl,h2 _ _ q2,p1,p2,p3,p4⟩
theorem Qk (l) (n:Name):nb (au.val l n)=some n.length:=by rw [cr];show some (List.map (ah.val l) n).length=_;rw [zzo]
theorem ap0 (a b:Operand):(#[a]++(none:Option Operand).toArray++(some b).toArray++(none:Option Operand).toArray).toList=[a,b]:=id rfl
theorem md4 (a:Nat):a * 4 / 4=a:=zO
theorem md5 (a:Nat):a * 5 / 5=a:=zO
theorem dv4 : 4 / 4=1:=rfl
theorem dv5 : 5 / 5=1:=rfl
theorem dv8 : 8 / 8=1:=rfl
theorem aqi (k fr h n):(bh k).dec fr h [.sc (.int k n)]=some n:=(bh k).rt fr h true n (fun _=>rfl)
theorem P0 (l:Bool) (d:bp):(ai.val l d).cells=[.vl l 1 (d.names.map (au.val l)),.vl l 1 (d.nums.map (cy.val l)),.vl l 1 (d.texts.map (ah.val l)),.vl l 1 (d.raw.map (bt.val l))]:=id rfl
theorem Rl (fr h l) (n:Name) (hl:(l || !fr)=true):kl ah fr h (au.val l n)=some n:=Ah ah fr h l n 1 rfl hl
def amu {α:Type} (C:er α) (h:Tr bk) (off:Nat) (x:bk):Option α:=
 match x with
 |.row cells _ _ _=>bif Nat.ble (off+C.sz) cells.length then C.dec false h ((cells.drop off).take C.sz) else none
 |_=>none
def ac9 {α:Type} (C:er α) (h:Tr bk) (a:AV):Option α:=
 match a with
 |.ik l=>bif Nat.ble C.sz l.length then C.dec false h (l.take C.sz) else none
 |.ptr o off=>(h.get o).bind (amu C h off)
 |_=>none
theorem W0 {α:Type} (C:er α) (h o off):ac9 C h (.ptr o off)=(h.get o).bind (amu C h off):=id rfl
theorem K6 {α:Type} (C:er α) (h l):ac9 C h (.ik l)=bif Nat.ble C.sz l.length then C.dec false h (l.take C.sz) else none:=id rfl
theorem Xb {α:Type} (C:er α) (h off cells k s e):amu C h off (.row cells k s e)=bif Nat.ble (off+C.sz) cells.length then C.dec false h ((cells.drop off).take C.sz) else none:=id rfl
theorem aFz {α:Type} (C:er α) {g h w K b0 a v x} (aB:Ok g h w) (hl:Au g h K) (hr:Rel g w a v) (hd:ac9 C h a=some x):Rel (gK b0 K) w (.ik (C.cells false x)) v:=by
 have fin:∀ (b off:Nat) (vs:List Value),bz g w ((C.cells false x).map fun _=>AV.bad) vs->bz (gK b0 K) w (C.cells false x) vs->(∀ j u,vs[j]? = some u->K b (off+j)/\w.cell? ⟨b,off+j,none⟩=some u)->Rel (gK b0 K) w (.ik (C.cells false x)) (.pointer (some ⟨b,off,none⟩)):=by
  intro b off vs _ hrl hc;refine .ik _ b off (fun j=>vs.getD j undef) (fun j a hj=>?_) (fun j a hj=>?_)
  ·obtain ⟨u,hu,_⟩:=hrl.get hj;have:=hc j u hu;exact ⟨this.1,by rw [this.2,List.getD_eq_getElem?_getD,hu];rfl⟩
  ·obtain ⟨u,hu,hrel⟩:=hrl.get hj;show Rel _ _ a (vs.getD j undef);rw [List.getD_eq_getElem?_getD,hu];exact hrel
 have qW:∀ vs:List Value,bz (gK b0 K) w (C.cells false x) vs->bz g w ((C.cells false x).map fun _=>AV.bad) vs:=fun vs h=>⟨by simpa using h.1,fun i a v ha _=>by rw [zzj,zzk] at ha;obtain ⟨_,_,rfl⟩:=ha;exact .bad _⟩
 cases hr with
 |ik l b off c h1 h2=>
  rw [K6] at hd;cases hb:Nat.ble C.sz l.length with
  |false=>rw [hb] at hd;cases hd
  |true=>
   rw [hb,cond_true] at hd;have hle:=zB hb;have iM:bz g w (l.take C.sz) (mw 0 C.sz c):=by
    refine ⟨by simp [mw];omega,fun i a v ha hv=>?_⟩;rw [zyg] at ha;by_cases hi:i<C.sz
    ·rw [if_pos hi] at ha;simp only [mw,zzj,zyk hi,Option.map_some,Option.some.injEq,Nat.zero_add] at hv;subst hv;exact h2 i a ha
    ·rw [if_neg hi] at ha;cases ha
   have q:=C.ok (b0:=b0) aB hl (fun e=>by cases e) iM hd;refine fin b off _ (qW _ q) q (fun j u hu=>?_);have hj:j<C.sz:=by have:=(zg.1 hu).1;simpa [mw] using this
   simp only [mw,zzj,zyk hj,Option.map_some,Option.some.injEq,Nat.zero_add] at hu;subst hu;have:=h1 j _ (zh zO);exact ⟨hl.K _ _ this.1,this.2⟩
 |ptr o off b base hi=>
  rw [W0,Option.bind_eq_some_iff] at hd;obtain ⟨y,hy,hd⟩:=hd;obtain ⟨b',base',hi',jI,hrow⟩:=aB.obj o y hy;rw [hi] at hi';cases hi';cases y with
  |map es=>cases hd
  |loop=>cases hd
  |row cells k st et=>
   rw [Xb] at hd;cases hle:Nat.ble (off+C.sz) cells.length with
   |false=>rw [hle] at hd;cases hd
   |true=>
    rw [hle,cond_true] at hd;have tF:=zB hle;obtain ⟨cs,fz,r1,r2,r3,_⟩:=hrow;have hpart:bz g w ((cells.drop off).take C.sz) (mw (base+off) C.sz (fun j=>cs.getD j undef)):=by
     refine ⟨by simp [mw];omega,fun i a v ha hv=>?_⟩;rw [zyg,zz6] at ha;by_cases cA:i<C.sz
     ·rw [if_pos cA] at ha;obtain ⟨u,hu,hrel⟩:=r3 _ a ha;simp only [mw,zzj,zyk cA,Option.map_some,Option.some.injEq] at hv;subst hv;rw [zze,zym,hu];exact hrel
     ·rw [if_neg cA] at ha;cases ha
    have q:=C.ok (b0:=b0) aB hl (fun e=>by cases e) hpart hd;refine fin b (base+off) _ (qW _ q) q (fun j u hv=>?_);have hj:j<C.sz:=by have:=(zg.1 hv).1;simpa [mw] using this
    simp only [mw,zzj,zyk hj,Option.map_some,Option.some.injEq] at hv;obtain ⟨u,hu,_⟩:=r3 (off+j) (cells[off+j]'zO) (by simp);have eF:=hl.rows o cells k st et hy b base hi (off+j) (.inr zO);rw [<- zym] at eF hu;refine ⟨eF,?_⟩;rw [kz r1,hu,<- hv,zze,hu];rfl
 |_=>cases hd
def aP {α β:Type} (C:er α) (R:AC β):AC (α × β) where
 E p:=.ik (C.cells false p.1)::R.E p.2
 D h l:=match l with
  | []=>none
  |a::r=>match ac9 C h a,R.D h r with
   |some x,some y=>some (x,y)
   |_,_=>none
 rt h p:=by
  have:ac9 C h (.ik (C.cells false p.1))=some p.1:=by rw [K6,C.len,Nat.ble_self_eq_true,cond_true,zzp (by rw [C.len];exact zza _)];exact C.rt false h false p.1 (fun e=>by cases e)
  simp only [this,R.rt]
 ok:=by
  intro g h w K b0 l vs x aB hl hr hd
  match l,hd with
  |a::r,hd=>
   simp only at hd
   split at hd
   ·rename_i x1 y1 hx hy;simp at hd;subst hd
    match vs,hr with
    | [],hr=>have:=hr.1;simp at this
    |v::vs,hr=>exact bz.cons (aFz C aB hl hr.head hx) (R.ok aB hl hr.tail hy)
   ·cases hd
theorem aH7 {α β:Type} (C:er α) (R:AC β) (h:Tr bk) (a:AV) (r:List AV):(aP C R).get h (a::r)=match ac9 C h a,R.get h r with|some x,some y=>some (x,y)|_,_=>none:=id rfl
theorem Rf (f) (l:List bp):(l.map (ai.val f)).flatMap AV.cells=cellsOf ai f l:=O6 ai f l
theorem tx (f) (l:List bp) (d:bp):cellsOf ai f (l++[d])=cellsOf ai f l++[.vl f 1 (d.names.map (au.val f)),.vl f 1 (d.nums.map (cy.val false)),.vl f 1 (d.texts.map (ah.val false)),.vl f 1 (d.raw.map (bt.val false))]:=by rw [uy,xd];rfl
structure aw where
 owner:Name
 type:UInt16
 cls:UInt16
 b9:UInt32
 data:List bp
def k6 (owner:Name) (type:UInt16) (cls:UInt16) (b9:UInt32) (data:List bp):aw:=⟨owner,type,cls,b9,data⟩
theorem aqt (x:aw):k6 x.owner x.type x.cls x.b9 x.data=x:=id rfl
theorem awh (owner type cls b9 data):(k6 owner type cls b9 data).owner=owner:=id rfl
theorem aA1 (owner type cls b9 data):(k6 owner type cls b9 data).data=data:=id rfl
def aj:er aw:=Em (mi au (mi ct (mi ct (mi cy (bw ai))))) (fun x=>(x.owner,x.type,x.cls,x.b9,x.data)) (fun p=>⟨p.1,p.2.1,p.2.2.1,p.2.2.2.1,p.2.2.2.2⟩) (fun _=>rfl) (fun _=>rfl)
theorem ji (l:Bool) (x:aw):aj.val l x = .agg [.vl l 1 (x.owner.map (ah.val l)),.sc (.int .u16 x.type.toNat),.sc (.int .u16 x.cls.toNat),.sc (.int .u32 x.b9.toNat),.vl l 4 (x.data.map (ai.val l))]:=id rfl
theorem ag0 (l:Bool) (x:aw):aj.cells l x=[.vl l 1 (x.owner.map (ah.val l)),.sc (.int .u16 x.type.toNat),.sc (.int .u16 x.cls.toNat),.sc (.int .u32 x.b9.toNat),.vl l 4 (x.data.map (ai.val l))]:=id rfl
theorem ad8:aj.sz=5:=id rfl
theorem Oa (fr:Bool) (h:Tr bk) (y0 y1 y2 y3 y4:AV):aj.j9 fr h (.agg [y0,y1,y2,y3,y4])=match kl ah fr h y0,ct.dec fr h [y1],ct.dec fr h [y2],cy.dec fr h [y3],kl ai fr h y4 with
 |some v0,some v1,some v2,some v3,some v4=>some (k6 v0 v1 v2 v3 v4)
 |_,_,_,_,_=>none:=by
 rw [Cn _ _ _ _ rfl rfl];have h1:aj.dec fr h (AV.agg [y0,y1,y2,y3,y4]).cells=Option.map (fun p=>(⟨p.1,p.2.1,p.2.2.1,p.2.2.2.1,p.2.2.2.2⟩:aw)) ((mi au (mi ct (mi ct (mi cy (bw ai))))).dec fr h [y0,y1,y2,y3,y4]):=rfl;rw [h1];simp only [atp,Gl,zk,K4,De,It,C0,List.take_succ_cons,List.take_zero,List.drop_succ_cons,List.drop_zero,ahg,ahe];cases (kl ah fr h y0)<;>cases (ct.dec fr h [y1])<;>cases (ct.dec fr h [y2])<;>cases (cy.dec fr h [y3])<;>cases (kl ai fr h y4)<;>rfl
theorem V1 (fr:Bool) (h:Tr bk) (y0 y1 y2 y3 y4:AV):aj.dec fr h [y0,y1,y2,y3,y4]=match kl ah fr h y0,ct.dec fr h [y1],ct.dec fr h [y2],cy.dec fr h [y3],kl ai fr h y4 with
 |some v0,some v1,some v2,some v3,some v4=>some (k6 v0 v1 v2 v3 v4)
 |_,_,_,_,_=>none:=(Nr aj fr h _ rfl).trans (Oa fr h y0 y1 y2 y3 y4)
theorem Bd (l) (xs:List aw) (x:aw):cellsOf aj l (xs++[x])=cellsOf aj l xs++[.vl l 1 (x.owner.map (ah.val false)),.sc (.int .u16 x.type.toNat),.sc (.int .u16 x.cls.toNat),.sc (.int .u32 x.b9.toNat),.vl l 4 (x.data.map (ai.val l))]:=by rw [uy,xd];rfl
structure dt where
 owner:Name
 type:UInt16
 cls:UInt16
 b9:UInt32
 data:bp
def mkR (owner:Name) (type:UInt16) (cls:UInt16) (b9:UInt32) (data:bp):dt:=⟨owner,type,cls,b9,data⟩
theorem aq7 (x:dt):mkR x.owner x.type x.cls x.b9 x.data=x:=id rfl
def bu:er dt:=Em (mi au (mi ct (mi ct (mi cy ai)))) (fun x=>(x.owner,x.type,x.cls,x.b9,x.data)) (fun p=>⟨p.1,p.2.1,p.2.2.1,p.2.2.2.1,p.2.2.2.2⟩) (fun _=>rfl) (fun _=>rfl)
theorem Ih (l:Bool) (x:dt):bu.val l x = .agg [.vl l 1 (x.owner.map (ah.val l)),.sc (.int .u16 x.type.toNat),.sc (.int .u16 x.cls.toNat),.sc (.int .u32 x.b9.toNat),.vl l 1 (x.data.names.map (au.val l)),.vl l 1 (x.data.nums.map (cy.val l)),.vl l 1 (x.data.texts.map (ah.val l)),.vl l 1 (x.data.raw.map (bt.val l))]:=id rfl
theorem aed:bu.sz=8:=id rfl
theorem X7 (fr:Bool) (h:Tr bk) (y0 y1 y2 y3 nR nQ nP nO:AV):bu.j9 fr h (.agg [y0,y1,y2,y3,nR,nQ,nP,nO])=match kl ah fr h y0,ct.dec fr h [y1],ct.dec fr h [y2],cy.dec fr h [y3],ai.j9 fr h (.agg [nR,nQ,nP,nO]) with
 |some v0,some v1,some v2,some v3,some v4=>some (mkR v0 v1 v2 v3 v4)
 |_,_,_,_,_=>none:=by
 rw [Cn _ _ _ _ rfl rfl];have h1:bu.dec fr h (AV.agg [y0,y1,y2,y3,nR,nQ,nP,nO]).cells=Option.map (fun p=>(⟨p.1,p.2.1,p.2.2.1,p.2.2.2.1,p.2.2.2.2⟩:dt)) ((mi au (mi ct (mi ct (mi cy ai)))).dec fr h [y0,y1,y2,y3,nR,nQ,nP,nO]):=rfl;rw [h1];simp only [atp,Gl,zk,K4,De,It,C0,List.take_succ_cons,List.take_zero,List.drop_succ_cons,List.drop_zero,ahg,ahe,N9,Nr ai fr h _ rfl];cases (kl ah fr h y0)<;>cases (ct.dec fr h [y1])<;>cases (ct.dec fr h [y2])<;>cases (cy.dec fr h [y3])<;>cases (ai.j9 fr h (.agg [nR,nQ,nP,nO]))<;>rfl
theorem amy (l) (xs:List dt) (x:dt):cellsOf bu l (xs++[x])=cellsOf bu l xs++[.vl l 1 (x.owner.map (ah.val false)),.sc (.int .u16 x.type.toNat),.sc (.int .u16 x.cls.toNat),.sc (.int .u32 x.b9.toNat),.vl l 1 (x.data.names.map (au.val l)),.vl l 1 (x.data.nums.map (cy.val false)),.vl l 1 (x.data.texts.map (ah.val false)),.vl l 1 (x.data.raw.map (bt.val false))]:=by rw [uy,xd];rfl
structure cf where
 origin:Name
 ar:List aw
def B0 (origin:Name) (ar:List aw):cf:=⟨origin,ar⟩
theorem aq3 (x:cf):B0 x.origin x.ar=x:=id rfl
def c7:er cf:=Em (mi au (bw aj)) (fun x=>(x.origin,x.ar)) (fun p=>⟨p.1,p.2⟩) (fun _=>rfl) (fun _=>rfl)
theorem nk (l:Bool) (x:cf):c7.val l x = .agg [.vl l 1 (x.origin.map (ah.val l)),.vl l 5 (x.ar.map (aj.val l))]:=id rfl
theorem Fm (l:Bool) (x:cf):c7.cells l x=[.vl l 1 (x.origin.map (ah.val l)),.vl l 5 (x.ar.map (aj.val l))]:=id rfl
theorem Ol:c7.sz=2:=id rfl
theorem Mb (fr:Bool) (h:Tr bk) (y0 y1:AV):c7.j9 fr h (.agg [y0,y1])=match kl ah fr h y0,kl aj fr h y1 with
 |some v0,some v1=>some (B0 v0 v1)
 |_,_=>none:=by
 rw [Cn _ _ _ _ rfl rfl];have h1:c7.dec fr h (AV.agg [y0,y1]).cells=Option.map (fun p=>(⟨p.1,p.2⟩:cf)) ((mi au (bw aj)).dec fr h [y0,y1]):=rfl;rw [h1];simp only [atp,Gl,zk,K4,De,It,C0,List.take_succ_cons,List.take_zero,List.drop_succ_cons,List.drop_zero,ahg,ahe];cases (kl ah fr h y0)<;>cases (kl aj fr h y1)<;>rfl
theorem Su (fr:Bool) (h:Tr bk) (y0 y1:AV):c7.dec fr h [y0,y1]=match kl ah fr h y0,kl aj fr h y1 with
 |some v0,some v1=>some (B0 v0 v1)
 |_,_=>none:=(Nr c7 fr h _ rfl).trans (Mb fr h y0 y1)
structure aD7 where
 addr:UInt32
 avp:List Int
structure ale where
 avp:List cf
 aKa:List aD7
 hints:List UInt32
structure ahl where
 kind:Int
 node:Name
 xF:Name
def mkP (kind:Int) (node:Name) (xF:Name):ahl:=⟨kind,node,xF⟩
structure asq where
 turn:Int
 ar:List aw
 to:Name
def mkT (turn:Int) (ar:List aw) (to:Name):asq:=⟨turn,ar,to⟩
structure ym where
 z:cf
 e:Int
def mkL (z:cf) (e:Int):ym:=⟨z,e⟩
theorem aEd (z e):(mkL z e).z=z:=id rfl
def qm:er ym:=Em (mi c7 (bh .i64)) (fun x=>(x.z,x.e)) (fun p=>⟨p.1,p.2⟩) (fun _=>rfl) (fun _=>rfl)
theorem Fx (l:Bool) (x:ym):qm.cells l x=[.vl l 1 (x.z.origin.map (ah.val l)),.vl l 5 (x.z.ar.map (aj.val l)),.sc (.int .i64 x.e)]:=id rfl
theorem Yi:qm.sz=3:=id rfl
theorem ao2 (fr:Bool) (h:Tr bk) (jL jK y1:AV):qm.j9 fr h (.agg [jL,jK,y1])=match c7.j9 fr h (.agg [jL,jK]),(bh .i64).dec fr h [y1] with
 |some v0,some v1=>some (mkL v0 v1)
 |_,_=>none:=by
 rw [Cn _ _ _ _ rfl rfl];have h1:qm.dec fr h (AV.agg [jL,jK,y1]).cells=Option.map (fun p=>(⟨p.1,p.2⟩:ym)) ((mi c7 (bh .i64)).dec fr h [jL,jK,y1]):=rfl;rw [h1];simp only [atp,Gl,zk,K4,De,It,C0,List.take_succ_cons,List.take_zero,List.drop_succ_cons,List.drop_zero,ahg,ahe,Ol,Nr c7 fr h _ rfl];cases (c7.j9 fr h (.agg [jL,jK]))<;>cases ((bh .i64).dec fr h [y1])<;>rfl
theorem S7 (fr:Bool) (h:Tr bk) (jL jK y1:AV):qm.dec fr h [jL,jK,y1]=match c7.j9 fr h (.agg [jL,jK]),(bh .i64).dec fr h [y1] with
 |some v0,some v1=>some (mkL v0 v1)
 |_,_=>none:=(Nr qm fr h _ rfl).trans (ao2 fr h jL jK y1)
structure Sp where
 xG:Int
 aa:Bool
 answer:List aw
 authority:List aw
 Ov:List aw
def mkY (xG:Int) (aa:Bool) (answer:List aw) (authority:List aw) (Ov:List aw):Sp:=⟨xG,aa,answer,authority,Ov⟩
theorem ae:type_of% @Qk/\type_of% @Qh/\type_of% @ap0/\type_of% @md4/\type_of% @md5/\type_of% @dv4/\type_of% @dv5/\type_of% @dv8/\type_of% @aqi/\type_of% @W0/\type_of% @K6/\type_of% @Xb/\type_of% @aH7/\type_of% @Rl/\type_of% @P0/\type_of% @U9/\type_of% @jq/\type_of% @jy/\type_of% @aqt/\type_of% @V1/\type_of% @ji/\type_of% @ad8/\type_of% @Oa/\type_of% @aq7/\type_of% @Ih/\type_of% @aed/\type_of% @X7/\type_of% @aq3/\type_of% @Su/\type_of% @nk/\type_of% @Ol/\type_of% @Mb/\type_of% @aEd/\type_of% @S7/\type_of% @Yi:=
 ⟨@Qk,@Qh,@ap0,@md4,@md5,@dv4,@dv5,@dv8,@aqi,@W0,@K6,@Xb,@aH7,@Rl,@P0,@U9,@jq,@jy,@aqt,@V1,@ji,@ad8,@Oa,@aq7,@Ih,@aed,@X7,@aq3,@Su,@nk,@Ol,@Mb,@aEd,@S7,@Yi⟩
abbrev zn (x:Name):AV:=.vl false 1 (x.map (ah.val false))
theorem zne (x:Name):zn x=.vl false 1 (x.map (ah.val false)):=rfl
abbrev zs (x:List aw):AV:=.vl false 5 (x.map (aj.val false))
theorem zse (x:List aw):zs x=.vl false 5 (x.map (aj.val false)):=rfl
abbrev zd (x:List bp):AV:=.vl false 4 (x.map (ai.val false))
theorem zde (x:List bp):zd x=.vl false 4 (x.map (ai.val false)):=rfl
abbrev zt (x:Name):AV:=.vl true 1 (x.map (ah.val false))
theorem zte (x:Name):zt x=.vl true 1 (x.map (ah.val false)):=rfl
abbrev zr (x:List dt):AV:=.vl false 8 (x.map (bu.val false))
theorem zre (x:List dt):zr x=.vl false 8 (x.map (bu.val false)):=rfl
abbrev zu (x:List UInt32):AV:=.vl false 1 (x.map (cy.val false))
theorem zue (x:List UInt32):zu x=.vl false 1 (x.map (cy.val false)):=rfl
abbrev zv (x:List Name):AV:=.vl false 1 (x.map (au.val false))
theorem zve (x:List Name):zv x=.vl false 1 (x.map (au.val false)):=rfl
abbrev zw (x:List UInt8):AV:=.vl false 1 (x.map (bt.val false))
theorem zwe (x:List UInt8):zw x=.vl false 1 (x.map (bt.val false)):=rfl
abbrev zi (x:Int):AV:=.sc (.int .i64 x)
theorem zie (x:Int):zi x=.sc (.int .i64 x):=rfl
theorem zT:type_of% RA/\type_of% TF/\type_of% ae/\type_of% @zne/\type_of% @zse/\type_of% @zde/\type_of% @zte/\type_of% @zre/\type_of% @zue/\type_of% @zve/\type_of% @zwe/\type_of% @zie:=⟨RA,TF,ae,@zne,@zse,@zde,@zte,@zre,@zue,@zve,@zwe,@zie⟩
theorem zS {p:Prop} (h:p:=by simp only [↓wR,zV,simprocAttr,ae]<;>rfl):p:=h
theorem zX {p:Prop} (h:p:=by simp only [↓wR,zV,simprocAttr,ae];(refine kh.lax [] (by first|exact zB rfl|(simp [cz];omega)) ?_ ?_<;>repeat' first|exact ft.nil|exact cq.nil|exact gn.same _|exact gn.nil _ _ _|exact gn.qb _ _|exact cq.refl _ _|apply ft.cons|apply cq.ghost|apply cq.same|apply cq.row)):p:=h
abbrev zE:Type:=Nat × Bool × (List AV->M AV)
abbrev zY (s:aw):=some (bk.row [zn s.owner,.sc (.int .u16 s.type.toNat),.sc (.int .u16 s.cls.toNat),.sc (.int .u32 s.b9.toNat),zd s.data] 0 2 63)
abbrev zZ (z:cf):=some (bk.row [zn z.origin,zs z.ar] 0 2 26)
end
end Go.Vm
end
section
namespace Go.Proofs.YtjagjbceegbaiaaGreat
open Go.Vm
noncomputable def m6 (t:UInt16) (l:List bp) (d:bp):Bool:=l.any fun x=>Av t x d
theorem aH9 (t:UInt16) (l:List bp) (d:bp) (hl:∀ x ∈ l,ca x) (hn:l.length<=16777216) (hd:ca d):wl PP [] 0 (Tryz.f119.body.getD .skip) (di PP Tryz.f119.results.toList (fun r st=>(r1 bq).get true st.h r=some (m6 t l d))) (cj 0 [ct.val false t,(bw ai).val false l,ai.val false d]) (ay []):=by
 unfold Tryz.f119;simp only [nv,jn];simp only [↓wR,zT,simprocAttr];refine cb (T:=[]) (ak.nil PP) mixed Tryz.func157 rfl zK zK zK zK ?_;unfold Tryz.f157;simp only [↓wR,zT,simprocAttr];refine cb (T:=[]) (ak.nil PP) mixed Tryz.func193 rfl zK zK zK zK ?_;unfold Tryz.f193;simp only [↓wR,zT,simprocAttr];refine da [0,1,7,8] (fun (i:Nat)=>[zd l,.fn (.func 158) [] [.ptr 0 0,.ptr 1 0],zi l.length,zi i]) (fun _=>[some (.row [.sc (.int .u16 t.toNat)] 0 2 50),some (.row [zv d.names,zu d.nums,.vl false 1 (d.texts.map (ah.val false)),zw d.raw] 0 2 116)]) (fun i=>i<=l.length/\m6 t l d=m6 t (l.drop i) d) (fun i=>l.length - i) 0 ⟨zzb _,rfl⟩ zS zS ?_;rintro i ⟨hi,hx⟩;simp only [↓wR,zT,simprocAttr];rw [az];refine ⟨fun h=>?_,fun h=>?_⟩
 ·obtain ⟨c,hc,aH,hlt⟩:=fi (zp h);have hx':m6 t l d=(Av t c d || m6 t (l.drop (i+1)) d):=by rw [hx,aH];rfl
  repeat (first|simp only [↓wR,zT,simprocAttr,h,hc]|simp (disch:=omega) only [zW])
  refine cb (T:=[aB9]) (ak.cons (aq ag7) (ak.nil PP)) mixed Tryz.func158 rfl zK zK zK zK ?_;unfold Tryz.f158;simp only [↓wR,zT,simprocAttr,Hf,hl c (zm hc),hd];rw [dv];refine ⟨fun h1=>?_,fun h1=>?_⟩
  ·rw [h1,Bool.true_or] at hx';simp only [↓wR,zT,simprocAttr,h1];rw [hx']
   done
  ·rw [h1,Bool.false_or] at hx'
   repeat (first|simp only [↓wR,zT,simprocAttr,h1]|simp (disch:=omega) only [zW])
   exact ⟨i+1,⟨hlt,hx'⟩,zO,zF⟩
 ·rw [gz (zq h)] at hx;simp only [↓wR,zT,simprocAttr,h];rw [hx];rfl
def kg (l:List bp):Prop:=dk ly l<=16777216
instance (l:List bp):Decidable (kg l):=inferInstanceAs (Decidable (_<=_))
theorem kg.mem {l:List bp} (h:kg l):∀ x ∈ l,ca x:=fun x hx=>by have h1:ly x<dk ly l:=u3 hx;unfold kg at h;unfold ca;omega
theorem kg.len {l:List bp} (h:kg l):l.length<=16777216:=zzu (I5 ly l) h
theorem Xq {α:Type} (f : α->Nat) (l:List α) (i:Nat):dk f (l.take i)<=dk f l:=by
 induction l generalizing i with
 |nil=>simp
 |cons a l ih=>
  cases i with
  |zero=>exact zzb _
  |succ i=>have:=ih i;simp only [dk,List.take_succ_cons,List.foldr_cons] at this ⊢;omega
theorem kg.take {l:List bp} (h:kg l) (i:Nat):kg (l.take i):=zzu (Xq ly l i) h
noncomputable def Bm (x:UInt16 × List bp × bp × Unit):Option AV:=if kg x.2.1/\ca x.2.2.1 then some ((r1 bq).E true (m6 x.1 x.2.1 x.2.2.1)) else none
theorem ad0 (x:UInt16 × List bp × bp × Unit) (r:AV) (h:Bm x=some r):bo PP 119 ((aC ct (aC (bw ai) (aC ai a0))).E x) r:=by obtain ⟨hc,rfl⟩:=zI h;exact bf (ak.nil PP) Tryz.func119 zK zK zK zL (r1 bq) true (m6 x.1 x.2.1 x.2.2.1) (aH9 x.1 x.2.1 x.2.2.1 hc.1.mem hc.1.len hc.2)
noncomputable abbrev D2:zE:=(119,true,dg (aC ct (aC (bw ai) (aC ai a0))) Bm)
def og (s:aw):Nat:=br s.owner+dk ly s.data
def cw (s:aw):Prop:=og s<=16777216
instance (s:aw):Decidable (cw s):=inferInstanceAs (Decidable (_<=_))
theorem cw.owner {s:aw} (h:cw s):bj s.owner:=by unfold cw og at h;unfold bj;omega
theorem cw.data {s:aw} (h:cw s):kg s.data:=by unfold cw og at h;unfold kg;omega
noncomputable def me (t:UInt16):List bp->List bp->Int
 |_,[]=>0
 |pre,d::r=>if c8 t d≠0 then c8 t d else if m6 t pre d=true then 10 else me t (pre++[d]) r
noncomputable def ud (s:aw):Int:=
 if cg s.owner≠0 then cg s.owner else if s.data.length=0 then 9 else if 512<s.data.length then 3 else me s.type [] s.data
theorem Wg (t:UInt16) {l:List bp} {i:Nat} {c:bp} (hc:l[i]? = some c):me t (l.take i) (l.drop i)=if c8 t c≠0 then c8 t c else if m6 t (l.take i) c=true then 10 else me t (l.take (i+1)) (l.drop (i+1)):=by obtain ⟨hi,rfl⟩:=zg.1 hc;rw [zzs hi,me,zz5 hi]
theorem aoc (s:aw) (hs:cw s):wl PP [fh,ml,D2] 0 (Tryz.f138.body.getD .skip) (di PP Tryz.f138.results.toList (fun r st=>(r1 (bh .i64)).get true st.h r=some (ud s))) (cj 0 [aj.val false s]) (ay []):=by
 have ho:=hs.owner;have hd:=hs.data;have hn:=hd.len;unfold Tryz.f138;simp only [ji];simp only [↓wR,zT,simprocAttr,j7,ho.fit];unfold ud;rw [dv];refine ⟨fun h=>?_,fun h=>?_⟩
 ·have he:cg s.owner≠0:=by simpa using h
  rw [if_pos he];simp only [↓wR,zT,simprocAttr,h]
 have he:cg s.owner=0:=by simpa using h
 rw [if_neg zO];simp only [↓wR,zT,simprocAttr,h];rw [cp];refine ⟨fun ⟨h1,e1⟩=>?_,fun ⟨h1,e1⟩=>?_⟩
 ·rw [if_pos zO];simp only [↓wR,zT,simprocAttr,h1]
 rw [if_neg zO];simp only [↓wR,zT,simprocAttr,h1];rw [az];refine ⟨fun h2=>?_,fun h2=>?_⟩
 ·rw [if_pos zO];simp only [↓wR,zT,simprocAttr,h2]
 rw [if_neg zO];simp only [↓wR,zT,simprocAttr,h2];refine da [1,24,25,26] (fun (i:Nat)=>[.ptr 0 0,zd s.data,zi s.data.length,zi i]) (fun _=>[some (.row [.vl false 1 (s.owner.map (ah.val false)),.sc (.int .u16 s.type.toNat),.sc (.int .u16 s.cls.toNat),.sc (.int .u32 s.b9.toNat),zd s.data] 0 2 63)]) (fun i=>i<=s.data.length/\me s.type [] s.data=me s.type (s.data.take i) (s.data.drop i)) (fun i=>s.data.length - i) 0 ⟨zzb _,rfl⟩ zS zS ?_;rintro i ⟨hi,hx⟩;simp only [↓wR,zT,simprocAttr];rw [az];refine ⟨fun h3=>?_,fun h3=>?_⟩
 ·obtain ⟨c,hc,aH,hlt⟩:=fi (zp h3);rw [Wg _ hc] at hx;have hcs:=hd.mem c (zm hc);simp only [↓wR,zT,simprocAttr,h3,hc,kq,hcs];rw [dv];refine ⟨fun h4=>?_,fun h4=>?_⟩
  ·have pZ:c8 s.type c≠0:=by simpa using h4
   rw [if_pos pZ] at hx;simp only [↓wR,zT,simprocAttr,h4];rw [hx]
  ·have pZ:c8 s.type c=0:=by simpa using h4
   rw [if_neg zO] at hx;simp only [↓wR,zT,simprocAttr,h4];refine ⟨zK,.inl ?_⟩;simp only [↓wR,zT,simprocAttr,hi,Bm,hd.take i,hcs];refine ⟨zK,?_⟩;rw [dv];refine ⟨fun h5=>?_,fun h5=>?_⟩
   ·rw [if_pos h5] at hx;simp only [↓wR,zT,simprocAttr,h5];rw [hx]
   ·rw [if_neg (by rw [h5];decide)] at hx
    repeat (first|simp only [↓wR,zT,simprocAttr,h5]|simp (disch:=omega) only [zW])
    exact ⟨i+1,⟨hlt,hx⟩,zO,zF⟩
 ·rw [gz (zq h3)] at hx;simp only [↓wR,zT,simprocAttr,h3];rw [hx];rfl
noncomputable def C1 (x:aw × Unit):Option AV:=if cw x.1 then some ((r1 (bh .i64)).E true (ud x.1)) else none
theorem Qc (x:aw × Unit) (r:AV) (h:C1 x=some r):bo PP 138 ((aC aj a0).E x) r:=by obtain ⟨hc,rfl⟩:=zI h;exact bf (ak.cons (aq u7) (ak.cons (aq x5) (ak.cons (aq ad0) (ak.nil PP)))) Tryz.func138 zK zK zK zL (r1 (bh .i64)) true (ud x.1) (aoc x.1 hc)
noncomputable abbrev j5:zE:=(138,true,dg (aC aj a0) C1)
theorem alg {S:Nat->Prop} {M b0:Nat} {K:Nat->Nat->Prop} {w:World} {l:List ByteArray} {v:Value} (hS:∀ b,b0<=b->(∀ j,K b j)->S b) (hM:∀ s ∈ l,s.size<=M) (hr:Rel (gK b0 K) w (.vl true 1 (l.map (ah.val true))) v):rz S M w .str v:=by
 refine acx (l:=true) ah rfl rfl rfl (by decide) (fun x hx c hc s e=>?_) (fun x hx c hc=>?_) hS hr
 ·have hc':c ∈ [AV.sc (.string x)]:=hc;rw [zz0] at hc';rw [hc'] at e;cases e;exact hM _ hx
 ·have hc':c ∈ [AV.sc (.string x)]:=hc;rw [zz0] at hc';exact ⟨_,hc'⟩
theorem aC2 {S:Nat->Prop} {M b0:Nat} {K:Nat->Nat->Prop} {w:World} {l:List UInt32} {v:Value} (hS:∀ b,b0<=b->(∀ j,K b j)->S b) (hr:Rel (gK b0 K) w (.vl true 1 (l.map (cy.val true))) v):rz S M w (.int .u32) v:=by
 refine acx (l:=true) cy rfl rfl rfl (by decide) (fun x hx c hc s e=>?_) (fun x hx c hc=>?_) hS hr
 ·have hc':c ∈ [AV.sc (.int .u32 x.toNat)]:=hc;rw [zz0] at hc';rw [hc'] at e;cases e
 ·have hc':c ∈ [AV.sc (.int .u32 x.toNat)]:=hc;rw [zz0] at hc';exact ⟨_,hc'⟩
theorem aGt {S:Nat->Prop} {M b0:Nat} {K:Nat->Nat->Prop} {w:World} {l:List UInt8} {v:Value} (hS:∀ b,b0<=b->(∀ j,K b j)->S b) (hr:Rel (gK b0 K) w (.vl true 1 (l.map (bt.val true))) v):rz S M w (.int .u8) v:=by
 refine acx (l:=true) bt rfl rfl rfl (by decide) (fun x hx c hc s e=>?_) (fun x hx c hc=>?_) hS hr
 ·have hc':c ∈ [AV.sc (.int .u8 x.toNat)]:=hc;rw [zz0] at hc';rw [hc'] at e;cases e
 ·have hc':c ∈ [AV.sc (.int .u8 x.toNat)]:=hc;rw [zz0] at hc';exact ⟨_,hc'⟩
theorem size_le (n:Name):∀ s ∈ n,s.size<=br n:=by intro s hs;obtain ⟨i,hi,rfl⟩:=List.getElem_of_mem hs;have h1:=H5 n i _ (zh hi);have h2:=(ku n (i+1)).1;omega
theorem S0 {S:Nat->Prop} {b0:Nat} {K:Nat->Nat->Prop} {w:World} {n:Name} {v:Value} (hS:∀ b,b0<=b->(∀ j,K b j)->S b) (hn:bj n) (hr:Rel (gK b0 K) w (.vl true 1 (n.map (ah.val true))) v):rz S 16777216 w .str v:=
 alg hS (fun s hs=>by have:=size_le n s hs;unfold bj at hn;omega) hr
theorem aE8 {S:Nat->Prop} {b0:Nat} {K:Nat->Nat->Prop} {w:World} {d:bp} {vs:List Value} (hS:∀ b,b0<=b->(∀ j,K b j)->S b) (hd:ca d) (hr:bz (gK b0 K) w (ai.cells true d) vs):T3 S 16777216 16777216 w vs:=by
 have h4:vs.length=4:=hr.1
 match vs,h4,hr with
 | [a,b,c,e],_,hr=>
  have ha:Rel (gK b0 K) w (.vl true 1 (d.names.map (au.val true))) a:=hr.2 0 _ _ rfl rfl;have hb:Rel (gK b0 K) w (.vl true 1 (d.nums.map (cy.val true))) b:=hr.2 1 _ _ rfl rfl;have hc:Rel (gK b0 K) w (.vl true 1 (d.texts.map (ah.val true))) c:=hr.2 2 _ _ rfl rfl;have he:Rel (gK b0 K) w (.vl true 1 (d.raw.map (bt.val true))) e:=hr.2 3 _ _ rfl rfl;refine ⟨a,b,c,e,rfl,ab3 (l:=true) au rfl hd.lens.1 (fun n hn us kH=>?_) hS ha,aC2 hS hb,alg hS (fun s hs=>hd.text s hs) hc,aGt hS he⟩;have h1:us.length=1:=kH.1
  match us,h1,kH with
  | [u],_,kH=>exact ⟨u,rfl,S0 hS (hd.name n hn) kH.head⟩
theorem aHo {S:Nat->Prop} {b0:Nat} {K:Nat->Nat->Prop} {w:World} {s:aw} {vs:List Value} (hS:∀ b,b0<=b->(∀ j,K b j)->S b) (hs:cw s) (hr:bz (gK b0 K) w (aj.cells true s) vs):Q4 S 16777216 16777216 16777216 w vs:=by
 have h5:vs.length=5:=hr.1
 match vs,h5,hr with
 | [o,t,c,u,d],_,hr=>
  have ho:Rel (gK b0 K) w (.vl true 1 (s.owner.map (ah.val true))) o:=hr.2 0 _ _ rfl rfl;have ht:Rel (gK b0 K) w (.sc (.int .u16 s.type.toNat)) t:=hr.2 1 _ _ rfl rfl;have hc:Rel (gK b0 K) w (.sc (.int .u16 s.cls.toNat)) c:=hr.2 2 _ _ rfl rfl;have hu:Rel (gK b0 K) w (.sc (.int .u32 s.b9.toNat)) u:=hr.2 3 _ _ rfl rfl;have hd:Rel (gK b0 K) w (.vl true 4 (s.data.map (ai.val true))) d:=hr.2 4 _ _ rfl rfl;refine ⟨o,t,c,u,d,rfl,S0 hS hs.owner ho,by rw [ht.exact rfl];rfl,by rw [hc.exact rfl];rfl,by rw [hu.exact rfl];rfl,ab3 (l:=true) ai rfl (hs.data.len) (fun x hx us kH=>aE8 hS (hs.data.mem x hx) kH) hS hd⟩
theorem aFa {S:Nat->Prop} {N b0:Nat} {K:Nat->Nat->Prop} {w:World} {l:List aw} {v:Value} (hS:∀ b,b0<=b->(∀ j,K b j)->S b) (hl:∀ s ∈ l,cw s) (hN:l.length<=N) (hr:Rel (gK b0 K) w (.vl true 5 (l.map (aj.val true))) v):qw S N w 5 (Q4 S 16777216 16777216 16777216) v:=
 ab3 (l:=true) aj rfl hN (fun s hs us kH=>aHo hS (hl s hs) kH) hS hr
end Go.Proofs.YtjagjbceegbaiaaGreat
end
namespace Go.Vm
variable [TK]
noncomputable section
def SW (P:Program) (nt:NT) (c:Code) (Q:QL) (L:SL) (st:St):Prop:=
 ∀ (N:Nat) (B:dz) (g:Gh) (a:Act) (w:World),B.iw->B.bg=0->B.n0<=B.w.heap.size->ew B nt L st g a w->c.wpIn (fw none) N P (Fin B nt Q) a w
def yt (keep:List Nat) (V:List AV) (O:List (Option bk)):QL:=fun e L st=>
 match e with
 |.normal=>dq 0 keep L st=V/\gk 0 keep L st=O
 |_=>False
theorem ib {keep V O L st}:yt keep V O .normal L st=(dq 0 keep L st=V/\gk 0 keep L st=O):=rfl
variable {P : Program} [KP P] {nt : NT} {Q : QL} {L : SL} {st : St}
theorem abd {T:fp} (hT:ak P T) (hm:P.follows .mixedOrders=true) {c:Code} (hs:fq nt c=true) (h:wl P T 0 c Q L st):SW P nt c Q L st:=by intro N B g a w aF hp aL hh;refine wpIn_mono (piece hT hm (N:=N) aF zO aL hs (by rw [hp];exact h) hh) ?_;rintro ex a' w' ⟨e,L',st',g',rfl,hq,bH,_⟩;exact ⟨e,L',st',g',rfl,hq,bH.cur,bH.sl,bH.uf⟩
theorem M5 {c:Code} {Q':QL} (hq:∀ e L st,Q e L st->Q' e L st) (h:SW P nt c Q L st):SW P nt c Q' L st:=by intro N B g a w aF hp aL hh;refine wpIn_mono (h N B g a w aF hp aL hh) ?_;rintro ex a' w' ⟨e,L',st',g',rfl,h0,h1,h2,h3⟩;exact ⟨e,L',st',g',rfl,hq _ _ _ h0,h1,h2,h3⟩
theorem Tj {x y:Code} (h:SW P nt x (Ma (SW P nt y) Q) L st):SW P nt (.seq x y) Q L st:=by
 intro N B g a w aF hp aL hh;refine wpIn_seq (wpIn_mono (h N B g a w aF hp aL hh) ?_);rintro ex a' w' ⟨e,L',st',g',rfl,hq,h1,h2,h3⟩;cases e with
 |normal=>exact hq N B g' a' w' aF hp aL ⟨h1,h2,h3⟩
 |ret=>exact ⟨.ret,L',st',g',rfl,hq,h1,h2,h3⟩
 |exit id=>exact ⟨.exit id,L',st',g',rfl,hq,h1,h2,h3⟩
theorem aix {id:Nat} {c:Code} (h:SW P nt c (Ob id Q) L st):SW P nt (.block id c) Q L st:=by
 intro N B g a w aF hp aL hh;refine wpIn_block (wpIn_mono (h N B g a w aF hp aL hh) ?_);rintro ex a' w' ⟨e,L',st',g',rfl,hq,h1,h2,h3⟩;cases e with
 |normal=>exact ⟨.normal,L',st',g',rfl,hq,h1,h2,h3⟩
 |ret=>exact ⟨.ret,L',st',g',rfl,hq,h1,h2,h3⟩
 |exit j=>
  simp only [Ob] at hq;by_cases e:j=id
  ·subst e;simp only [Nat.beq_refl,cond_true] at hq;simp only [wg,Exit.inBlock,if_true];exact ⟨.normal,L',st',g',rfl,hq,h1,h2,h3⟩
  ·rw [uk e,cond_false] at hq;simp only [wg,Exit.inBlock,if_neg e];exact ⟨.exit j,L',st',g',rfl,hq,h1,h2,h3⟩
theorem Mz {c:Code} (keep:List Nat) (V:List AV) (O:List (Option bk)) (hv:kh 0 (dq 0 keep L st) (gk 0 keep L st) V O) (h:SW P nt c Q (fm keep V) (ay O)):SW P nt c Q L st:=by intro N B g a w aF hp aL hh;obtain ⟨V',O',g1,⟨rfl,rfl⟩,k1,k2,k3,_⟩:=I3 (X:=fun vs os=>vs=V/\os=O) aF zO keep (by rw [hp];exact ⟨_,_,hv,rfl,rfl⟩) hh.cur hh.sl;exact h N B g1 a w aF hp aL ⟨k1,k2,k3 _ _ _ (Ag zO keep hh.uf)⟩
theorem Dj {T:fp} (hT:ak P T) (hm:P.follows .mixedOrders=true) {x y:Code} (keep:List Nat) (V:List AV) (O:List (Option bk)) (hs:fq nt x=true) (h:wl P T 0 x (yt keep V O) L st) (k:SW P nt y Q (fm keep V) (ay O)):SW P nt (.seq x y) Q L st:=by
 refine Tj (M5 ?_ (abd hT hm hs h));intro e L' st' hq;cases e with
 |normal=>exact Mz keep V O (by rw [hq.1,hq.2];exact kh.refl _ _ _) k
 |ret=>exact hq.elim
 |exit id=>exact hq.elim
theorem azv {T:fp} (hT:ak P T) (hm:P.follows .mixedOrders=true) {x:Code} (keep:List Nat) (V:List AV) (O:List (Option bk)) (hs:fq nt x=true) (h:wl P T 0 x (yt keep V O) L st) (k:∀ L st,dq 0 keep L st=V->gk 0 keep L st=O->Q .normal L st):SW P nt x Q L st:=by
 refine M5 ?_ (abd hT hm hs h);intro e L' st' hq;cases e with
 |normal=>exact k L' st' hq.1 hq.2
 |ret=>exact hq.elim
 |exit id=>exact hq.elim
theorem aHf {c:Code} {α:Type} (keep:List Nat) (V : α->List AV) (O : α->List (Option bk)) (I : α->Prop) (μ : α->Nat) (x : α) (hx:I x)
 (hv:kh 0 (dq 0 keep L st) (gk 0 keep L st) (V x) (O x))
 (step:∀ x,I x->SW P nt c (ou 0 keep (fun vs os=>∃ y,I y /\ μ y < μ x/\vs=V y/\os=O y) Q) (fm keep (V x)) (ay (O x))):SW P nt (.loop c) Q L st:=by
 refine Mz keep (V x) (O x) hv ?_;intro N B g a w aF hp aL hh;refine Pe (fun x a w=>I x/\∃ g,ew B nt (fm keep (V x)) (ay (O x)) g a w) μ ?_ x a w ⟨hx,g,hh⟩;rintro x a w ⟨hi,g,hh⟩;refine wpIn_mono (step x hi N B g a w aF hp aL hh) ?_;rintro ex a' w' ⟨e,L',st',g',rfl,hq,h1,h2,h3⟩;cases e with
 |normal=>
  obtain ⟨y,hy,hlt,e1,e2⟩:=hq;have hc:=ew.canon aF zO keep (⟨h1,h2,h3⟩:ew B nt L' st' g' a' w');rw [hp,e1,e2] at hc;exact ⟨y,hlt,hy,_,hc⟩
 |ret=>exact ⟨.ret,L',st',g',rfl,hq,h1,h2,h3⟩
 |exit id=>exact ⟨.exit id,L',st',g',rfl,hq,h1,h2,h3⟩
def att (k:Nat) (keep:List Nat) (V:List AV) (O:List (Option bk)):QL:=fun e L st=>
 match e with
 |.exit j=>j=k/\dq 0 keep L st=V/\gk 0 keep L st=O
 |_=>False
theorem aEx {k keep V O L st j}:att k keep V O (.exit j) L st=(j=k/\dq 0 keep L st=V/\gk 0 keep L st=O):=rfl
theorem awv {T:fp} (hT:ak P T) (hm:P.follows .mixedOrders=true) (n:Nat) {c:Code} (hsp:Sd (n+1) c=true) (hs:fq nt c=true) (h:wl P T 0 (qd (n+1) c) (Ma (SW P nt (ia (n+1) c)) Q) L st):SW P nt c Q L st:=by
 intro N B g a w aF hp aL hh;refine Cz hT hm (N:=N) aF zO aL n c hsp hs (X:=Fin B nt Q) (Q:=Ma (SW P nt (ia (n+1) c)) Q) ?_ L st g a w (by rw [hp];exact h) hh;intro e L' st' g' a' w' hq bH;cases e with
 |normal=>exact hq N B g' a' w' aF hp aL bH
 |ret=>exact ⟨.ret,L',st',g',rfl,hq,bH.cur,bH.sl,bH.uf⟩
 |exit id=>exact ⟨.exit id,L',st',g',rfl,hq,bH.cur,bH.sl,bH.uf⟩
theorem abl {f:Nat} {fn:Func} {body:Code} (hf:P.funcs[f]? = some fn) (hb:fn.body=some body) (he:qk P f=true) {args:List AV} (hl:args.length<=fn.ntmps) {ρ:Type} (R:RC ρ) (fr:Bool) (x : ρ)
 (h:SW P fn.ntmps body (di P fn.results.toList (fun r st=>R.get fr st.h r=some x)) (cj 0 args) (ay [])):bo P f args (R.E fr x):=
 yp hf hb he hl R fr x (fun B g a w aF hp _ aL hh=>h 0 B g a w aF hp aL hh)
end
variable [TK]
noncomputable section
def A8 (P:Program) (N:Nat) (ops:Array Oper) (l:List Oper) (X:Exit->Act->World->Prop) (a:Act) (w:World):Prop:=
 ∀ is:List Nat,is.map (fun i=>ops[i]?)=l.map some->wpOpsIn (fw none) N P ops X is a w
theorem Cb {P:Program} {N id:Nat} {ops:Array Oper} {X:Exit->Act->World->Prop} {a:Act} {w:World} (h:A8 P N ops ops.toList X a w):(Code.region id ops false).wpIn (fw none) N P X a w:=
 wpIn_region (h (List.range ops.size) (Lh ops))
theorem Xi {P:Program} [KP P] {T:fp} (hT:ak P T) {B:dz} {nt:NT} (aF:B.iw) {N:Nat} {ops:Array Oper} {l:List Oper} {K:SL->St->Prop} {X:Exit->Act->World->Prop} {L st g a w} (hg:n5 nt ops=true) (hd:sj nt ops=true) (hm:∀ o ∈ l,o ∈ ops)
 (h:opsL P T ops l K L st) (hh:ew B nt L st g a w) (hK:∀ L st g a w,K L st->ew B nt L st g a w->X .normal a w):A8 P N ops l X a w:=fun is aK=>
 aqo hT aF hg hd (fun L st g w a hk hc hr hm=>hK L st g a w hk ⟨hc,hr,hm⟩) l is hm aK L st g w a h hh.cur hh.sl hh.uf
theorem adn {o:Oper} {f:Nat} {d:Option Nat} {args:List Nat} (h:Dt o=some (d,f,args)):∃ ts pos af ty,o=⟨d,.call { callee:=.value (.func f),args:=(args.map Operand.tmp).toArray,argTypes:=ts },ty,pos,af,none⟩:=by
 obtain ⟨dst,op,ty,pos,af,gd⟩:=o;unfold Dt at h
 split at h
 ·rename_i f' aa ats h1 h2;simp only [zzk,Prod.mk.injEq] at h;obtain ⟨ts,h3,rfl,rfl,rfl⟩:=h;subst h1 h2;refine ⟨ats,pos,af,ty,?_⟩;rw [<- acz h3]
 ·cases h
theorem az3 {P:Program} [KP P] {T:fp} (hT:ak P T) {B:dz} {nt:NT} (aF:B.iw) {N:Nat} {ops:Array Oper} {l1 l2:List Oper} {o:Oper} {K:SL->St->Prop} {X:Exit->Act->World->Prop} {L st g a w} (hg:n5 nt ops=true) (hd:sj nt ops=true) (hm:∀ o ∈ l1,o ∈ ops) (dY:o ∈ ops)
 {f:Nat} {args:List Nat} {d:Option Nat} (hl:Dt o=some (d,f,args)) (he:qk P f=true)
 (h:opsL P T ops l1 K L st) (hh:ew B nt L st g a w)
 (hK:∀ L' st' g' a' w',K L' st'->ew B nt L' st' g' a' w'->Calls P f (args.map fun t=>a'.tmps.getD t undef).toArray w' (fun e w''=>∃ r,e = .returned r/\∀ a'',a''.defers=a'.defers->a''.tmps.size=a'.tmps.size->(∀ t,d≠some t->a''.tmps.getD t undef=a'.tmps.getD t undef)->(∀ dd,d=some dd->a''.tmps.getD dd undef=r)->A8 P N ops l2 X a'' w'')) :
 A8 P N ops (l1++o::l2) X a w:=by
 obtain ⟨ts,pos,af,ty,rfl⟩:=adn hl;have key:∀ (l:List Oper) (is:List Nat),(∀ o ∈ l,o ∈ ops)->is.map (fun i=>ops[i]?)=(l++(⟨d,.call { callee:=.value (.func f),args:=(args.map Operand.tmp).toArray,argTypes:=ts },ty,pos,af,none⟩:Oper)::l2).map some->∀ L st g a w,opsL P T ops l K L st->ew B nt L st g a w->wpOpsIn (fw none) N P ops X is a w:=by
  intro l
  induction l with
  |nil=>
   intro is _ aK L st g a w h hh;rw [List.nil_append] at aK
   match is,aK with
   |i::is,aK=>
    simp only [List.map_cons,List.cons.injEq] at aK;obtain ⟨hi,aK⟩:=aK;have hK':=hK L st g a w h hh;simp only [wpOpsIn,hi];have hw:Region.wanted (⟨d,.call { callee:=.value (.func f),args:=(args.map Operand.tmp).toArray,argTypes:=ts },ty,pos,af,none⟩:Oper) (yielded ops a.tmps)=true:=by simp [Region.wanted]
    rw [hw,if_pos rfl];refine ⟨ll none P _ a w,?_⟩;rw [Oper.semAt_eq _ _ _ (by intro c e;cases e)];have hrun:(execOp a.eval (⟨d,.call { callee:=.value (.func f),args:=(args.map Operand.tmp).toArray,argTypes:=ts },ty,pos,af,none⟩:Oper)).run P w=(callFunc f (args.map fun t=>a.tmps.getD t undef).toArray).run P w:=by
     rw [Fl (h:=f) (first:=#[]) (captured:=#[]) (f:=.func f) rfl rfl]
     congr 2
     apply Array.ext';simp [Act.eval]
    rw [hrun,ur he];refine ⟨(fun h=>(by cases h)),(ss (ro:=none) (n:=N - 1) hK').mono ?_⟩;rintro e w' ⟨r,rfl,hX⟩;have hdd:=fun dd (e:d=some dd)=>nh hd dY dd e
    show wpOpsIn (fw none) N P ops X is (a.put d r) w';refine hX _ (put_defers _ _ _) ?_ (fun t ht=>?_) (fun dd e=>?_) is aK
    ·cases d with
     |none=>rfl
     |some dd=>show (a.tmps.setIfInBounds dd r).size=_;simp
    ·cases d with
     |none=>rfl
     |some dd=>
      have hne:dd≠t:=fun e=>ht (by rw [e])
      show (a.tmps.setIfInBounds dd r).getD t undef=a.tmps.getD t undef;rw [zze,zzz,if_neg hne,zze]
    ·subst e;have:=(NT.Jm (hdd dd rfl)).1;show (a.tmps.setIfInBounds dd r).getD dd undef=r;rw [zze,zzz,if_pos rfl,if_pos (by rw [hh.sl.1.size];exact this)];rfl
   | [],aK=>cases aK
  |cons o l ih=>
   intro is hmem aK L st g a w h hh;obtain ⟨hc,hr,cH⟩:=hh;cases is with
   |nil=>cases aK
   |cons i is=>
    simp only [List.cons_append,List.map_cons,List.cons.injEq] at aK;obtain ⟨hi,aK⟩:=aK;have ho:=hmem o (by simp);simp only [wpOpsIn,hi];rcases zf hr (Be hg ho) h with ⟨hw,h1⟩|⟨hw,h1⟩
    ·rw [hw,if_pos rfl];unfold Pf En at h1;cases hop:il P T o (eu L) st with
     |none=>
      rw [hop] at h1;refine J0 hc.ok (fun o ho=>hc.fresh o ho (aF o)) hr.eval h1 none N _ _ ?_;rintro u w' ⟨g',v,st',q0,q1,q2,q3,q4⟩;exact ih is (fun o ho=>hmem o (by simp [ho])) aK _ st' g' _ w' q0 ⟨hc.step (aF.vw _ _) ⟨q1,q2⟩ q3,(hr.ext q2.ext).put q4 (nh hd ho),by rw [put_defers];exact cH.step q2⟩
     |some p=>
      obtain ⟨v,st'⟩:=p;rw [hop] at h1;refine Gg hT hc.ok (hc.free (aF.vw _ _)) hr.eval hop none N _ _ ?_;rintro u w' ⟨g',q1,q2,q3⟩;exact ih is (fun o ho=>hmem o (by simp [ho])) aK _ st' g' _ w' h1 ⟨hc.step (aF.vw _ _) ⟨A2 hop,q1⟩ q2,(hr.ext q1.ext).put q3 (nh hd ho),by rw [put_defers];exact cH.step q1⟩
    ·rw [hw,if_neg (by simp)];refine ⟨ll none P o a w,?_⟩;exact ih is (fun o ho=>hmem o (by simp [ho])) aK _ st g _ w h1 ⟨hc,hr.put (.sc _) (nh hd ho),by rw [put_defers];exact cH⟩
 intro is aK;exact key l1 is hm aK L st g a w h hh
theorem aHz {b0:Nat} {K:Nat->Nat->Prop} {w:World} (hb:b0<=w.heap.size) (hK:∀ b j,K b j->b<w.heap.size):Ok (gK b0 K) .nil w:=
 ⟨hb,fun o x hx=>(by rw [Tr.get_nil] at hx;cases hx),fun o o' x x' b base base' _ hx=>(by rw [Tr.get_nil] at hx;cases hx),hK⟩
theorem bz.aId {b0:Nat} {K K':Nat->Nat->Prop} {w:World} {l:List AV} {vs:List Value} (h:bz (gK b0 K) w l vs) (hf:∀ a ∈ l,a.fresh=true) (nJ:∀ b j,K b j->b0<=b->K' b j):bz (gK b0 K') w l vs:=
 ⟨h.1,fun i a v ha hv=>(h.2 i a v ha hv).fresh (g:=gK b0 K') (hf a (zm ha)) (zza _) nJ⟩
theorem awf {α:Type} (C:er α) {b0 b1:Nat} {K K':Nat->Nat->Prop} {w:World} {x : α} {vs:List Value} (hb:b0<=w.heap.size) (hK:∀ b j,K' b j->b<w.heap.size) (nJ:∀ b j,K b j->b0<=b->K' b j) (hr:bz (gK b0 K) w (C.cells true x) vs):bz (gK b1 K') w (C.cells false x) vs:=
 C.ok (fr:=false) (aHz hb hK) (Au.nil _ _ (fun _ _ h=>h)) (fun e=>by cases e) (hr.aId (C.fr x) nJ) (C.rt false .nil true x (fun e=>by cases e))
theorem ass {g:Gh} {w:World} {b:Nat} {cs:Array Value} {e:TypeId} {fr:Nat × Nat} {cells:List AV} (h:w.heap[b]? = some (.cells cs e fr)) (hK:∀ j,g.K b j) (hr:bz g w cells cs.toList):Rel g w (.ik cells) (.pointer (some ⟨b,0,none⟩)):=by
 have hlen:cs.size=cells.length:=by rw [<- hr.1];simp
 refine .ik _ b 0 (fun j=>cs.getD j undef) (fun j a ha=>⟨hK _,?_⟩) (fun j a ha=>?_)
 ·rw [Nat.zero_add];exact cell_of h (by have:=(zg.1 ha).1;omega)
 ·have hj:=(zg.1 ha).1;refine hr.2 j a _ ha ?_;rw [zz2,zze,zz3 zO];rfl
theorem ew.aJw {B:dz} {nt L st g a w} (hh:ew B nt L st g a w) {α:Type} (C:er α) {t o k:Nat} {x : α} {et:TypeId} (hl:lk L t = .ptr o 0) (ho:st.h.get o=some (.row (C.cells true x) k 2 et)) {b1:Nat} {K':Nat->Nat->Prop} (hb:B.b0<=w.heap.size) (hK:∀ b j,K' b j->b<w.heap.size) (nJ:∀ b j,B.b0<=b->b<w.heap.size->K' b j) :
 Rel (gK b1 K') w (.ik (C.cells false x)) (a.tmps.getD t undef):=by
 obtain ⟨b,cs,e1,e2,e3,e4⟩:=hh.box hl ho;rw [e1];exact ass e3 (fun j=>nJ b j e2 (cd e3)) (awf C hb hK (fun b j h1 h2=>nJ b j h2 h1) (hh.aEk C e4))
theorem bz.avm {b0 b1:Nat} {K K':Nat->Nat->Prop} {w w':World} {l:List AV} {vs:List Value} (hb0:∀ b,b0<=b->(∀ j,K b j)->b1<=b) (hK:∀ b j,K b j->K' b j) (hh:∀ b j,K b j->w'.heap[b]? = w.heap[b]?) (h:bz (gK b0 K) w l vs):bz (gK b1 K') w' l vs:=
 ⟨h.1,fun i a v ha hv=>(h.2 i a v ha hv).stay hb0 hK hh⟩
theorem bz.aL7 {S:Nat->Prop} {w1 D ds w} {K':Nat->Nat->Prop} (h:rh S w1 D ds w) (hS:∀ b,b<w1.heap.size->¬ S b) (hK:∀ b j,b<w1.heap.size->K' b j) {l:List AV} {vs:List Value} (hr:bz (gK w1.heap.size (xc w1)) w1 l vs):bz (gK w.heap.size K') w l vs:=
 hr.avm (K:=xc w1) (fun b h1 h2=>absurd (h2 0) (Nat.not_lt.2 h1)) (fun b j hk=>hK b j hk) (fun b _ (hk:b<w1.heap.size)=>h.low b hk (hS b hk))
theorem bz.win {S:Nat->Prop} {w3 D ds w4} {K':Nat->Nat->Prop} (h:rh S w3 D ds w4) (hK:∀ b j,K' b j->b<w3.heap.size/\¬ S b) {l:List AV} {vs:List Value} (hr:bz (gK w3.heap.size K') w3 l vs):bz (gK w4.heap.size (xc w4)) w4 l vs:=
 hr.avm (K:=K') (fun b h1 h2=>absurd (hK b 0 (h2 0)).1 (Nat.not_lt.2 h1)) (fun b j hk=>zyd (hK b j hk).1 h.size) (fun b j hk=>h.low b (hK b j hk).1 (hK b j hk).2)
theorem aBh {P:Program} [KP P] {o:Oper} {a:Act} {g:Gh} {st st':St} {w:World} {ρ:Operand->AV} {r:AV} (aB:Ok g st.h w) (hf:qh g st st') (hr:qf g w ρ a.eval) (h:mono (E9 P o ρ) st=some (r,st')) {v0:Value}
 (hx:∀ nx w',(execOp a.eval o).run P w = .ok nx w'->nx = .value v0) :
 H7 P o a w (fun v w'=>v=v0/\∃ g',Step g st.h w st.nx st'.nx g' st'.h w'/\Ok g' st'.h w'/\Rel g' w' r v):=by
 obtain ⟨h1,hle⟩:=wy h;have hd:∀ c,o.op ≠ .defer c:=by intro c e;unfold E9 at h1;rw [e] at h1;cases h1
 obtain ⟨nx,w',g',q1,q2,q3,q4⟩:=alq (P:=P) aB hf hr h1;have e0:=hx nx w' q1;subst e0;intro ro N K Q hK;refine ⟨ll ro P o a w,?_⟩;rw [Oper.semAt_eq _ _ _ hd,q1];rcases q4 with ⟨v,e,hv⟩|⟨e,_⟩
 ·cases e;exact hK v0 w' ⟨rfl,g',q2,q3,hv⟩
 ·cases e
theorem ze {P:Program} [KP P] {T:fp} (hT:ak P T) {B:dz} {nt:NT} (aF:B.iw) {N:Nat} {ops:Array Oper} {l2:List Oper} {o:Oper} {X:Exit->Act->World->Prop} {L st g a w} (hg:n5 nt ops=true) (hd:sj nt ops=true) (dY:o ∈ ops) (hgd:o.guard=none)
 {r:AV} {st':St} (h:mono (E9 P o (eu L)) st=some (r,st')) (hh:ew B nt L st g a w) {v0:Value} (hx:∀ nx w',(execOp a.eval o).run P w = .ok nx w'->nx = .value v0)
 (hK:∀ g' w',ew B nt (l8 o.dst r L) st' g' (a.put o.dst v0) w'->A8 P N ops l2 X (a.put o.dst v0) w'):A8 P N ops (o::l2) X a w:=by
 intro is aK;obtain ⟨hc,hr,cH⟩:=hh;cases is with
 |nil=>cases aK
 |cons i is=>
  simp only [List.map_cons,List.cons.injEq] at aK;obtain ⟨hi,aK⟩:=aK;simp only [wpOpsIn,hi];have hw:Region.wanted o (yielded ops a.tmps)=true:=by simp [Region.wanted,hgd]
  rw [hw,if_pos rfl];refine aBh hc.ok (hc.free (aF.vw _ _)) hr.eval h hx none N _ _ ?_;rintro u w' ⟨rfl,g',q1,q2,q3⟩;exact hK g' w' ⟨hc.step (aF.vw _ _) ⟨(wy h).2,q1⟩ q2,(hr.ext q1.ext).put q3 (nh hd dY),by rw [put_defers];exact cH.step q1⟩ is aK
theorem aDc {P:Program} {g:Gh} {st st':St} {w:World} {t:TypeId} {l c r:AV} {lv cv:Value} (hl:Rel g w l lv) (hc:Rel g w c cv) (h:qx P t l c st=some (r,st')) {n m:Int} (hn:yh l=some n) (hm:yh c=some m) {x:Value} {w2:World}
 (hx:(Instr.makeSlice t lv cv).run P w = .ok x w2):x = .slice (some ⟨w.heap.size,0,none⟩) n.toNat m.toNat:=by
 unfold qx at h;cases he:tc P t with
 |none=>simp [he,M.fail] at h
 |some e=>
 cases hsz:fc P e with
 |none=>simp [he,hn,hm,hsz,M.fail] at h
 |some sz=>
 cases hz:ic P e with
 |none=>simp [he,hn,hm,hsz,hz,M.fail] at h
 |some z=>
 cases hby:mu P e with
 |none=>simp [he,hn,hm,hsz,hz,hby,M.fail] at h
 |some bytes=>
 simp only [he,hn,hm,hsz,hz,hby] at h;rcases db h with ⟨hcc,h2⟩|⟨_,h2⟩
 case inr=>cases h2
 simp only [zzh,decide_eq_true_eq] at hcc;obtain ⟨⟨⟨⟨c1,c2⟩,c3⟩,c4⟩,c5⟩:=hcc;have c5:=zzg c5;obtain ⟨i,hi,rfl⟩:=Z3 hby;have hwl:IntKind.i64.wrap n=n:=Iv c1 zO;have hwc:IntKind.i64.wrap m=m:=Iv zO zO;have n1:¬ (m<0):=zO;have n2:¬ (n<0):=zO;have n3:¬ (m<n):=zO;have n4:¬ ((i.bytes:Int) * m > 281474976710656):=by rw [Int.mul_comm];omega
 have a1:=Q9 (P:=P) (w':=w) hl hn;have a2:=Q9 (P:=P) (w':=w) hc hm;by_cases h0:m.toNat * sz=0
 ·simp [Instr.makeSlice,run_underlying (u6 he),a1,a2,run_typeInfo hi,hwl,hwc,n1,n2,n3,n4,run_sizeOf hsz,h0,newRow] at hx;exact hx.1.symm
 ·simp [Instr.makeSlice,run_underlying (u6 he),a1,a2,run_typeInfo hi,hwl,hwc,n1,n2,n3,n4,run_sizeOf hsz,h0,newRow,oo hz] at hx;exact hx.1.symm
theorem axq {P:Program} {g:Gh} {st st':St} {w:World} {a:Act} {o:Oper} {t:TypeId} {l c:Operand} {L:SL} {r:AV} (ho:o.op = .makeSlice t l c) (hl:Rel g w (eu L l) (a.eval l)) (hc:Rel g w (eu L c) (a.eval c)) (h:qx P t (eu L l) (eu L c) st=some (r,st')) {n m:Int} (hn:yh (eu L l)=some n) (hm:yh (eu L c)=some m) :
 ∀ nx w',(execOp a.eval o).run P w = .ok nx w'->nx = .value (.slice (some ⟨w.heap.size,0,none⟩) n.toNat m.toNat):=by
 intro nx w' hx;obtain ⟨dst,op,ty,pos,af,gd⟩:=o;subst ho;cases hr:(Instr.makeSlice t (a.eval l) (a.eval c)).run P w with
 |ok x w2=>
  have h1:(execOp a.eval ⟨dst,.makeSlice t l c,ty,pos,af,gd⟩).run P w = .ok (.value x) w2:=by simp [execOp,hr]
  rw [h1] at hx;cases hx;rw [aDc hl hc h hn hm hr]
 |_=>
  simp [execOp,hr] at hx
theorem aBk {P:Program} [KP P] {T:fp} (hT:ak P T) {B:dz} {nt:NT} (aF:B.iw) {N:Nat} {ops:Array Oper} {l1 l2:List Oper} {K:SL->St->Prop} {X:Exit->Act->World->Prop} {L st g a w} (hg:n5 nt ops=true) (hd:sj nt ops=true) (hm:∀ o ∈ l1,o ∈ ops)
 (h:opsL P T ops l1 K L st) (hh:ew B nt L st g a w) (hK:∀ L' st' g' a' w',K L' st'->ew B nt L' st' g' a' w'->A8 P N ops l2 X a' w'):A8 P N ops (l1++l2) X a w:=by
 have key:∀ (l:List Oper) (is:List Nat),(∀ o ∈ l,o ∈ ops)->is.map (fun i=>ops[i]?)=(l++l2).map some->∀ L st g a w,opsL P T ops l K L st->ew B nt L st g a w->wpOpsIn (fw none) N P ops X is a w:=by
  intro l
  induction l with
  |nil=>
   intro is _ aK L st g a w h hh;exact hK L st g a w h hh is aK
  |cons o l ih=>
   intro is hmem aK L st g a w h hh;obtain ⟨hc,hr,cH⟩:=hh;cases is with
   |nil=>cases aK
   |cons i is=>
    simp only [List.cons_append,List.map_cons,List.cons.injEq] at aK;obtain ⟨hi,aK⟩:=aK;have ho:=hmem o (by simp);simp only [wpOpsIn,hi];rcases zf hr (Be hg ho) h with ⟨hw,h1⟩|⟨hw,h1⟩
    ·rw [hw,if_pos rfl];unfold Pf En at h1;cases hop:il P T o (eu L) st with
     |none=>
      rw [hop] at h1;refine J0 hc.ok (fun o ho=>hc.fresh o ho (aF o)) hr.eval h1 none N _ _ ?_;rintro u w' ⟨g',v,st',q0,q1,q2,q3,q4⟩;exact ih is (fun o ho=>hmem o (by simp [ho])) aK _ st' g' _ w' q0 ⟨hc.step (aF.vw _ _) ⟨q1,q2⟩ q3,(hr.ext q2.ext).put q4 (nh hd ho),by rw [put_defers];exact cH.step q2⟩
     |some p=>
      obtain ⟨v,st'⟩:=p;rw [hop] at h1;refine Gg hT hc.ok (hc.free (aF.vw _ _)) hr.eval hop none N _ _ ?_;rintro u w' ⟨g',q1,q2,q3⟩;exact ih is (fun o ho=>hmem o (by simp [ho])) aK _ st' g' _ w' h1 ⟨hc.step (aF.vw _ _) ⟨A2 hop,q1⟩ q2,(hr.ext q1.ext).put q3 (nh hd ho),by rw [put_defers];exact cH.step q1⟩
    ·rw [hw,if_neg (by simp)];refine ⟨ll none P o a w,?_⟩;exact ih is (fun o ho=>hmem o (by simp [ho])) aK _ st g _ w h1 ⟨hc,hr.put (.sc _) (nh hd ho),by rw [put_defers];exact cH⟩
 intro is aK;exact key l1 is hm aK L st g a w h hh
theorem akg {P:Program} {N:Nat} {ops:Array Oper} {X:Exit->Act->World->Prop} {a:Act} {w:World} (h:X .normal a w):A8 P N ops [] X a w:=by
 intro is aK;cases is with
 |nil=>exact h
 |cons i is=>cases aK
theorem Kv {P:Program} {a:Act} {o:Oper} {x:Operand} {w:World} {v:Value} (ho:o.op = .move x\/o.op = .assign x) (hv:a.eval x=v):∀ nx w',(execOp a.eval o).run P w = .ok nx w'->nx = .value v:=by
 intro nx w' hx;obtain ⟨dst,op,ty,pos,af,gd⟩:=o;rcases ho with ho|ho <;>
 ·subst ho;simp only [execOp,hv] at hx;cases hx;rfl
theorem atw {P:Program} {g:Gh} {w:World} {a:Act} {o:Oper} {t e:TypeId} {x hi:Operand} {L:SL} {b len cap h sz:Nat} (ho:o.op = .slice t x none (some hi) none) (hρ:qf g w (eu L) a.eval) (hx:a.eval x = .slice (some ⟨b,0,none⟩) len cap) (hc:len<=cap) (aR : 0<cap)
 (hb:bounds (eu L) len none (some hi) none=some (0,h,false)) (hu:P.underlying t=some (.slice e)) (hs:fc P e=some sz):∀ nx w',(execOp a.eval o).run P w = .ok nx w'->nx = .value (.slice (some ⟨b,0,none⟩) h cap):=by
 intro nx w' hr;obtain ⟨_,_,m,h1,h2,h3,_,h5⟩:=wc (P:=P) (isS:=true) hρ hc hb;have hm:=h5 rfl;subst hm;have h6:=yg (a:=some ⟨b,0,none⟩) hu hs h1;obtain ⟨dst,op,ty,pos,af,gd⟩:=o;subst ho;have h7:(execOp a.eval ⟨dst,.slice t x none (some hi) none,ty,pos,af,gd⟩).run P w = .ok (.value (.slice (some ⟨b,0,none⟩) h m)) w:=by simp only [execOp,hx];have hne:¬ m=0:=zO;rw [if_neg hne] at h6;simp only [Option.map_some,Option.map_none,Nat.zero_mul,Nat.sub_zero] at h6 ⊢;simp [h6,Addr.add]
 rw [h7] at hr;cases hr;rfl
theorem aBm {P:Program} [KP P] {g:Gh} {st st':St} {w:World} {a:Act} {o:Oper} {L:SL} {v0:Value} (aB:Ok g st.h w) (hf:qh g st st') (hr:qf g w (eu L) a.eval) (h:mono (E9 P o (eu L)) st=some (.sc v0,st')) (hne:v0≠undef) :
 ∀ nx w',(execOp a.eval o).run P w = .ok nx w'->nx = .value v0:=by
 intro nx w' hx;obtain ⟨DT,w2,g',q1,q2,q3,q4⟩:=alq (P:=P) aB hf hr (wy h).1;rw [hx] at q1;cases q1;rcases q4 with ⟨v,rfl,hv⟩|⟨rfl,e⟩
 ·rw [hv.exact rfl]
 ·cases e;exact (hne rfl).elim
theorem anr {P:Program} [KP P] {f:Nat} {fn:Func} {body:Code} (hf:P.funcs[f]? = some fn) (hb:fn.body=some body) {t:Nat} (hres:fn.results = #[.tmp t])
 {args:List AV} (hl:args.length<=fn.ntmps) {V:Nat->Value} {et:TypeId} {Good:Nat->Array Value->Prop}
 (h:∀ (B:dz) (g:Gh) (a:Act) (w:World),B.iw->B.bg=0->(∀ b,¬ B.O b)->B.n0<=B.w.heap.size->B.b0=B.w.heap.size->ew B fn.ntmps (cj 0 args) (ay []) g a w->body.wpIn (fw none) 0 P (fun ex a' w'=>ex = .ret/\∃ L st g' b cs,ew B fn.ntmps L st g' a' w'/\a'.tmps.getD t undef=V b/\B.w.heap.size<=b/\w'.heap[b]? = some (.cells cs et (0,0))/\Good b cs) a w)
 {K:Nat->Nat->Prop} {w:World} {vs:List Value} (hK:∀ b j,K b j->b<w.heap.size) (hrel:bz (gK w.heap.size K) w args vs) :
 Calls P f vs.toArray w (fun e w'=>∃ b cs,e = .returned (V b)/\ta w w'/\w.heap.size<=b/\w'.heap[b]? = some (.cells cs et (0,0))/\Good b cs):=by
 refine yy (ro:=none) (n:=0) (callsIn_of_wp_marks hf hb trivial ?_)
 let B:dz:={ b0:=w.heap.size,w,K,O:=fun _=>False,bg:=0,pb:=fun _=>none,n0:=w.heap.size }
 have bE:mf B (gK w.heap.size K) (ay []) w:=by
  refine ⟨⟨zza _,fun o x hx=>?_,fun o o' x x' b base base' _ hx=>?_,hK⟩,fun o _ _=>rfl,⟨rfl,(fun o ho=>(by rcases ho with ho|ho;cases ho;exact ho.elim)),fun _ _ h=>h,fun _ _ _=>rfl,zza _,rfl,rfl,rfl,fun _ _ _=>rfl,fun o b base ho=>?_,fun _ _ h=>.inl h,fun b cs e fr h=>⟨cs,fr,h,rfl⟩,fun b l h=>⟨l,h⟩,fun _ _ _ _ _ _=>rfl⟩,zzb _⟩
  ·simp [ay,ov,Tr.get_nil] at hx
  ·simp [ay,ov,Tr.get_nil] at hx
  ·simp [ay,ov,Tr.get_nil] at ho
 refine wpIn_mono (h B (gK w.heap.size K) _ w (fun _ h=>h) rfl (fun _ h=>h) (zza _) rfl ⟨bE,Ek hrel hl,Marks.nil _ _ _ _⟩) ?_;rintro ex a w' ⟨rfl,L,st,g,b,cs,hh,hv,jI,hcs,hgd⟩;show LeavesInM (fw none) 0 P fn a.tmps _ a.defers .returning w';have bI:=hh.cur.base;obtain ⟨bs,e1,e2,e3⟩:=hh.uf;have e1:=e1.trans (zzn _);rw [e1];refine G4 (Good:=fun u=>ta w u/\u.heap[b]? = some (.cells cs et (0,0))) (S:=fun b=>w.heap.size<=b) ?_ ?_ bs w'
  ⟨⟨bI.size,fun b hlt=>bI.frame b hlt (fun h=>h),bI.os,bI.tape,bI.output⟩,hcs⟩ e2 (fun b hb=>⟨(e3 b hb).1,(e3 b hb).2.1⟩)
 ·rintro u b' ⟨g2,g3⟩ hb1 hb3;have hne:b'≠b:=fun e=>by subst e;rw [g3] at hb3;cases hb3
  exact ⟨⟨by rw [pd];exact g2.size,fun c hc=>(gm u _ zO).trans (g2.heap c hc),g2.os,g2.tape,g2.output⟩,(gm u _ zO).trans g3⟩
 ·rintro u ⟨g2,g3⟩;refine ⟨V b,?_,b,cs,rfl,g2,jI,g3,hgd⟩;have hmap:(fn.results.mapM (wt a.tmps)).run P u = .ok #[V b] u:=by
   rw [Array.mapM_eq_mapM_toList,hres];simp [wt,hv]
  rw [Y5];simp only [Sem.run_bind,hmap,Result.andThen_ok,Sem.run_pure];rfl
theorem ew.less {B:dz} {nt qX:NT} {L L':SL} {st st':St} {g:Gh} {a:Act} {w:World} (hh:ew B nt L st g a w) (pD:tk qX a.tmps) (h:∀ t,lk L' t=lk L t\/lk L' t = .bad) (hn:st'.nx=st.nx) (hg:∀ o,st'.h.get o=st.h.get o):ew B qX L' st' g a w:=by
 have h2:ew B qX L' st g a w:=⟨hh.cur,⟨pD,fun t=>by
  rcases h t with e|e
  ·rw [e];exact hh.sl.2 t
  ·rw [e];exact .bad _⟩,hh.uf⟩
 exact h2.congr hn hg
theorem ew.aLt {B:dz} {nt L st g a w} (hh:ew B nt L st g a w) {t o k n sz:Nat} {cells:List AV} {et:TypeId} (hn:n≠0) (hl:lk L t = .sl o 0 n sz) (ho:st.h.get o=some (.row cells k 0 et)) :
 ∃ b cap cs,a.tmps.getD t undef = .slice (some ⟨b,0,none⟩) n cap/\B.b0<=b/\w.heap[b]? = some (.cells cs et (0,0))/\∀ (i:Nat) x,cells[i]? = some x->∃ c,cs[i]? = some c/\Rel g w x c:=by
 have h1:=hh.sl.2 t;rw [hl] at h1;obtain ⟨v,hv⟩:∃ v,a.tmps.getD t undef=v:=⟨_,rfl⟩;rw [hv] at h1 ⊢;cases h1 with
 |ug _ _ _ a=>exact (hn rfl).elim
 |uw _ _ _=>exact (hn rfl).elim
 |sl _ _ _ _ b base cap hi hc hm hr=>
  obtain ⟨b',base',q1,q2,cs,fr,q3,q4,q5,q6,q7,q8,q9,nV⟩:=hh.cur.ok.obj o _ ho ⟨_,hi⟩;rw [hi] at q1;cases q1;have hf:=q8 (by decide);have hs:=nV rfl;have e1:=hs.1;subst hf e1;exact ⟨b,cap,cs,rfl,by rw [<- hh.cur.base.b0];exact q2,q3,fun i x hx=>by obtain ⟨c,hc,hr⟩:=q5 i x hx;rw [Nat.zero_add] at hc;exact ⟨c,hc,hr⟩⟩
theorem La {α:Type} (x : α) (st:St):mono (M.pure x) st=some (x,st):=by unfold mono M.pure;simp only [Nat.ble_eq_true_of_le (zza _),cond_true]
theorem bo.calls {P:Program} [KP P] {f:Nat} {args:List AV} {r:AV} (h:bo P f args r) (he:qk P f=true) {K:Nat->Nat->Prop} {w:World} {vs:List Value} (hK:∀ b j,K b j->b<w.heap.size) (hrel:bz (gK w.heap.size K) w args vs) :
 Calls P f vs.toArray w (fun e w'=>∃ v,e = .returned v/\ta w w'/\Rel (gK w.heap.size (Pc K w w')) w' r v):=by
 rcases h K w vs hK hrel with ⟨v,h1,_⟩|⟨_,h2⟩
 ·rw [ur he] at h1;cases h1
 ·exact h2
end
end Go.Vm
