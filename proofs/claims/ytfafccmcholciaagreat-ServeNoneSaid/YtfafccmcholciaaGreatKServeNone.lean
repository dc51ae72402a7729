/- Proved: the law ServeNone returns true, whatever it is given: its run on abstract values, of which the arguments are unknown, is reckoned by the kernel. No conditions. -/
import Derived.Test.YtfafccmcholciaaGreatWxU
import Derived.Test.YtfafccmcholciaaGreatWxV
import Derived.Test.YtfafccmcholciaaGreatRows
import Derived.JoinedCond
import Derived.KernelRfl
set_option linter.unusedVariables false
namespace Go.Proofs.YtfafccmcholciaaGreat.serveNone
open Go.Vm Go.Vm.Lit Go.ChangeShapes Go.WideShapes Go.ChangeAt

noncomputable abbrev PP := Tryz.prog
theorem mixed : PP.follows .mixedOrders = true := by kernel_rfl
set_option maxRecDepth 1000000
noncomputable def pv0 : AV := (V false 5 [(G [(V false 1 [(S [97])]), (I .u16 (2)), (I .u16 (1)), (I .u32 (60)), (V false 4 [(G [(V false 1 [(V false 1 [(S [110, 115]), (S [97])])]), (N), (N), (N)])])]), (G [(V false 1 [(S [97])]), (I .u16 (6)), (I .u16 (1)), (I .u32 (60)), (V false 4 [(G [(V false 1 [(V false 1 [(S [110, 115]), (S [97])]), (V false 1 [(S [97])])]), (V false 1 [(I .u32 (1)), (I .u32 (2)), (I .u32 (3)), (I .u32 (4)), (I .u32 (30))]), (N), (N)])])]), (G [(V false 1 [(S [98]), (S [97])]), (I .u16 (2)), (I .u16 (1)), (I .u32 (60)), (V false 4 [(G [(V false 1 [(V false 1 [(S [110, 115]), (S [98]), (S [97])])]), (N), (N), (N)])])]), (G [(V false 1 [(S [110, 115]), (S [98]), (S [97])]), (I .u16 (1)), (I .u16 (1)), (I .u32 (60)), (V false 4 [(G [(N), (N), (N), (V false 1 [(I .u8 (10)), (I .u8 (0)), (I .u8 (0)), (I .u8 (2))])])])]), (G [(V false 1 [(S [110, 115]), (S [97])]), (I .u16 (1)), (I .u16 (1)), (I .u32 (60)), (V false 4 [(G [(N), (N), (N), (V false 1 [(I .u8 (10)), (I .u8 (0)), (I .u8 (0)), (I .u8 (1))])])])]), (G [(V false 1 [(S [42]), (S [119]), (S [97])]), (I .u16 (1)), (I .u16 (1)), (I .u32 (60)), (V false 4 [(G [(N), (N), (N), (V false 1 [(I .u8 (10)), (I .u8 (0)), (I .u8 (0)), (I .u8 (3))])])])]), (G [(V false 1 [(S [119, 119, 119]), (S [97])]), (I .u16 (5)), (I .u16 (1)), (I .u32 (60)), (V false 4 [(G [(V false 1 [(V false 1 [(S [110, 115]), (S [97])])]), (N), (N), (N)])])])])
noncomputable def pv1 : AV := (V true 5 [(G [(V true 1 [(S [97])]), (I .u16 (2)), (I .u16 (1)), (I .u32 (60)), (V true 4 [(G [(V true 1 [(V true 1 [(S [110, 115]), (S [97])])]), (N), (N), (N)])])]), (G [(V true 1 [(S [97])]), (I .u16 (6)), (I .u16 (1)), (I .u32 (60)), (V true 4 [(G [(V true 1 [(V true 1 [(S [110, 115]), (S [97])]), (V true 1 [(S [97])])]), (V true 1 [(I .u32 (1)), (I .u32 (2)), (I .u32 (3)), (I .u32 (4)), (I .u32 (30))]), (N), (N)])])]), (G [(V true 1 [(S [98]), (S [97])]), (I .u16 (2)), (I .u16 (1)), (I .u32 (60)), (V true 4 [(G [(V true 1 [(V true 1 [(S [110, 115]), (S [98]), (S [97])])]), (N), (N), (N)])])]), (G [(V true 1 [(S [110, 115]), (S [98]), (S [97])]), (I .u16 (1)), (I .u16 (1)), (I .u32 (60)), (V true 4 [(G [(N), (N), (N), (V true 1 [(I .u8 (10)), (I .u8 (0)), (I .u8 (0)), (I .u8 (2))])])])]), (G [(V true 1 [(S [110, 115]), (S [97])]), (I .u16 (1)), (I .u16 (1)), (I .u32 (60)), (V true 4 [(G [(N), (N), (N), (V true 1 [(I .u8 (10)), (I .u8 (0)), (I .u8 (0)), (I .u8 (1))])])])]), (G [(V true 1 [(S [42]), (S [119]), (S [97])]), (I .u16 (1)), (I .u16 (1)), (I .u32 (60)), (V true 4 [(G [(N), (N), (N), (V true 1 [(I .u8 (10)), (I .u8 (0)), (I .u8 (0)), (I .u8 (3))])])])]), (G [(V true 1 [(S [119, 119, 119]), (S [97])]), (I .u16 (5)), (I .u16 (1)), (I .u32 (60)), (V true 4 [(G [(V true 1 [(V true 1 [(S [110, 115]), (S [97])])]), (N), (N), (N)])])])])
noncomputable def pb0 : Look := lookOf [(202, true, sameE), (212, true, compareE)]
theorem pb0Ok : LookOk PP pb0 ∧ LookFr pb0 :=
  lookOf_cons (fun args => same_call (fn := (PP.funcs[202]?).getD default) (by kernel_rfl) (by kernel_rfl) (by kernel_rfl) (by kernel_rfl) (by kernel_rfl) args) (fun args => sameE_framed args) (lookOf_cons (fun args => compare_call (fn := (PP.funcs[212]?).getD default) (by kernel_rfl) (by kernel_rfl) (by kernel_rfl) (by kernel_rfl) (by kernel_rfl) args) (fun args => compareE_framed args) (lookOf_nil))
noncomputable def pa0 : List AV := [pv0]
noncomputable def pr0 : AV := pv1
theorem pm0 : pr0.fresh = true ∧ CallPure PP 52 pa0 pr0 :=
  callPure_ran (n := 60) (lookN_ok pb0Ok.1 pb0Ok.2 mixed 100000 60).1 (by kernel_rfl) (by kernel_rfl)
noncomputable def pv2 : AV := (G [(V true 1 [(S [97])]), (V true 5 [(G [(V true 1 [(S [97])]), (I .u16 (2)), (I .u16 (1)), (I .u32 (60)), (V true 4 [(G [(V true 1 [(V true 1 [(S [110, 115]), (S [97])])]), (N), (N), (N)])])]), (G [(V true 1 [(S [97])]), (I .u16 (6)), (I .u16 (1)), (I .u32 (60)), (V true 4 [(G [(V true 1 [(V true 1 [(S [110, 115]), (S [97])]), (V true 1 [(S [97])])]), (V true 1 [(I .u32 (1)), (I .u32 (2)), (I .u32 (3)), (I .u32 (4)), (I .u32 (30))]), (N), (N)])])]), (G [(V true 1 [(S [98]), (S [97])]), (I .u16 (2)), (I .u16 (1)), (I .u32 (60)), (V true 4 [(G [(V true 1 [(V true 1 [(S [110, 115]), (S [98]), (S [97])])]), (N), (N), (N)])])]), (G [(V true 1 [(S [110, 115]), (S [98]), (S [97])]), (I .u16 (1)), (I .u16 (1)), (I .u32 (60)), (V true 4 [(G [(N), (N), (N), (V true 1 [(I .u8 (10)), (I .u8 (0)), (I .u8 (0)), (I .u8 (2))])])])]), (G [(V true 1 [(S [110, 115]), (S [97])]), (I .u16 (1)), (I .u16 (1)), (I .u32 (60)), (V true 4 [(G [(N), (N), (N), (V true 1 [(I .u8 (10)), (I .u8 (0)), (I .u8 (0)), (I .u8 (1))])])])]), (G [(V true 1 [(S [42]), (S [119]), (S [97])]), (I .u16 (1)), (I .u16 (1)), (I .u32 (60)), (V true 4 [(G [(N), (N), (N), (V true 1 [(I .u8 (10)), (I .u8 (0)), (I .u8 (0)), (I .u8 (3))])])])]), (G [(V true 1 [(S [119, 119, 119]), (S [97])]), (I .u16 (5)), (I .u16 (1)), (I .u32 (60)), (V true 4 [(G [(V true 1 [(V true 1 [(S [110, 115]), (S [97])])]), (N), (N), (N)])])])])])
noncomputable def pb1 : Look := lookOf [(202, true, sameE), (212, true, compareE), (52, false, memoM 60 [(pa0, pr0)])]
theorem pb1Ok : LookOk PP pb1 ∧ LookFr pb1 :=
  lookOf_cons (fun args => same_call (fn := (PP.funcs[202]?).getD default) (by kernel_rfl) (by kernel_rfl) (by kernel_rfl) (by kernel_rfl) (by kernel_rfl) args) (fun args => sameE_framed args) (lookOf_cons (fun args => compare_call (fn := (PP.funcs[212]?).getD default) (by kernel_rfl) (by kernel_rfl) (by kernel_rfl) (by kernel_rfl) (by kernel_rfl) args) (fun args => compareE_framed args) (lookOf_cons (fun args => memo_call (MemoOk.cons pm0.1 pm0.2 (MemoOk.nil)) args) (fun args => memo_framed 60 _ args) (lookOf_nil)))
noncomputable def pa1 : List AV := []
noncomputable def pr1 : AV := pv2
theorem pm1 : pr1.fresh = true ∧ CallPure PP 20 pa1 pr1 :=
  callPure_ran (n := 60) (lookN_ok pb1Ok.1 pb1Ok.2 mixed 100000 60).1 (by kernel_rfl) (by kernel_rfl)
noncomputable def pv3 : AV := (G [(V false 1 [(S [97])]), (V false 5 [(G [(V false 1 [(S [97])]), (I .u16 (2)), (I .u16 (1)), (I .u32 (60)), (V false 4 [(G [(V false 1 [(V false 1 [(S [110, 115]), (S [97])])]), (N), (N), (N)])])]), (G [(V false 1 [(S [97])]), (I .u16 (6)), (I .u16 (1)), (I .u32 (60)), (V false 4 [(G [(V false 1 [(V false 1 [(S [110, 115]), (S [97])]), (V false 1 [(S [97])])]), (V false 1 [(I .u32 (1)), (I .u32 (2)), (I .u32 (3)), (I .u32 (4)), (I .u32 (30))]), (N), (N)])])]), (G [(V false 1 [(S [98]), (S [97])]), (I .u16 (2)), (I .u16 (1)), (I .u32 (60)), (V false 4 [(G [(V false 1 [(V false 1 [(S [110, 115]), (S [98]), (S [97])])]), (N), (N), (N)])])]), (G [(V false 1 [(S [110, 115]), (S [98]), (S [97])]), (I .u16 (1)), (I .u16 (1)), (I .u32 (60)), (V false 4 [(G [(N), (N), (N), (V false 1 [(I .u8 (10)), (I .u8 (0)), (I .u8 (0)), (I .u8 (2))])])])]), (G [(V false 1 [(S [110, 115]), (S [97])]), (I .u16 (1)), (I .u16 (1)), (I .u32 (60)), (V false 4 [(G [(N), (N), (N), (V false 1 [(I .u8 (10)), (I .u8 (0)), (I .u8 (0)), (I .u8 (1))])])])]), (G [(V false 1 [(S [42]), (S [119]), (S [97])]), (I .u16 (1)), (I .u16 (1)), (I .u32 (60)), (V false 4 [(G [(N), (N), (N), (V false 1 [(I .u8 (10)), (I .u8 (0)), (I .u8 (0)), (I .u8 (3))])])])]), (G [(V false 1 [(S [119, 119, 119]), (S [97])]), (I .u16 (5)), (I .u16 (1)), (I .u32 (60)), (V false 4 [(G [(V false 1 [(V false 1 [(S [110, 115]), (S [97])])]), (N), (N), (N)])])])])])
noncomputable def pa2 : List AV := [pv3]
noncomputable def pr2 : AV := (I .i64 (0))
theorem pm2 : pr2.fresh = true ∧ CallPure PP 91 pa2 pr2 :=
  callPure_ran (n := 60) (lookN_ok pb0Ok.1 pb0Ok.2 mixed 100000 60).1 (by kernel_rfl) (by kernel_rfl)
noncomputable def pv4 : AV := (T [(V true 8 [(G [(V true 1 [(S [97])]), (I .u16 (2)), (I .u16 (1)), (I .u32 (60)), (V true 1 [(V true 1 [(S [110, 115]), (S [97])])]), (N), (N), (N)]), (G [(V true 1 [(S [97])]), (I .u16 (6)), (I .u16 (1)), (I .u32 (60)), (V true 1 [(V true 1 [(S [110, 115]), (S [97])]), (V true 1 [(S [97])])]), (V true 1 [(I .u32 (1)), (I .u32 (2)), (I .u32 (3)), (I .u32 (4)), (I .u32 (30))]), (N), (N)]), (G [(V true 1 [(S [98]), (S [97])]), (I .u16 (2)), (I .u16 (1)), (I .u32 (60)), (V true 1 [(V true 1 [(S [110, 115]), (S [98]), (S [97])])]), (N), (N), (N)]), (G [(V true 1 [(S [110, 115]), (S [98]), (S [97])]), (I .u16 (1)), (I .u16 (1)), (I .u32 (60)), (N), (N), (N), (V true 1 [(I .u8 (10)), (I .u8 (0)), (I .u8 (0)), (I .u8 (2))])]), (G [(V true 1 [(S [110, 115]), (S [97])]), (I .u16 (1)), (I .u16 (1)), (I .u32 (60)), (N), (N), (N), (V true 1 [(I .u8 (10)), (I .u8 (0)), (I .u8 (0)), (I .u8 (1))])]), (G [(V true 1 [(S [42]), (S [119]), (S [97])]), (I .u16 (1)), (I .u16 (1)), (I .u32 (60)), (N), (N), (N), (V true 1 [(I .u8 (10)), (I .u8 (0)), (I .u8 (0)), (I .u8 (3))])]), (G [(V true 1 [(S [119, 119, 119]), (S [97])]), (I .u16 (5)), (I .u16 (1)), (I .u32 (60)), (V true 1 [(V true 1 [(S [110, 115]), (S [97])])]), (N), (N), (N)])]), (I .i64 (0))])
noncomputable def pb2 : Look := lookOf [(202, true, sameE), (212, true, compareE), (91, false, memoM 60 [(pa2, pr2)])]
theorem pb2Ok : LookOk PP pb2 ∧ LookFr pb2 :=
  lookOf_cons (fun args => same_call (fn := (PP.funcs[202]?).getD default) (by kernel_rfl) (by kernel_rfl) (by kernel_rfl) (by kernel_rfl) (by kernel_rfl) args) (fun args => sameE_framed args) (lookOf_cons (fun args => compare_call (fn := (PP.funcs[212]?).getD default) (by kernel_rfl) (by kernel_rfl) (by kernel_rfl) (by kernel_rfl) (by kernel_rfl) args) (fun args => compareE_framed args) (lookOf_cons (fun args => memo_call (MemoOk.cons pm2.1 pm2.2 (MemoOk.nil)) args) (fun args => memo_framed 60 _ args) (lookOf_nil)))
noncomputable def pa3 : List AV := [pv3]
noncomputable def pr3 : AV := pv4
theorem pm3 : pr3.fresh = true ∧ CallPure PP 47 pa3 pr3 :=
  callPure_ran (n := 60) (lookN_ok pb2Ok.1 pb2Ok.2 mixed 100000 60).1 (by kernel_rfl) (by kernel_rfl)
noncomputable def pv5 : AV := (V false 8 [(G [(V false 1 [(S [97])]), (I .u16 (2)), (I .u16 (1)), (I .u32 (60)), (V false 1 [(V false 1 [(S [110, 115]), (S [97])])]), (N), (N), (N)]), (G [(V false 1 [(S [97])]), (I .u16 (6)), (I .u16 (1)), (I .u32 (60)), (V false 1 [(V false 1 [(S [110, 115]), (S [97])]), (V false 1 [(S [97])])]), (V false 1 [(I .u32 (1)), (I .u32 (2)), (I .u32 (3)), (I .u32 (4)), (I .u32 (30))]), (N), (N)]), (G [(V false 1 [(S [98]), (S [97])]), (I .u16 (2)), (I .u16 (1)), (I .u32 (60)), (V false 1 [(V false 1 [(S [110, 115]), (S [98]), (S [97])])]), (N), (N), (N)]), (G [(V false 1 [(S [110, 115]), (S [98]), (S [97])]), (I .u16 (1)), (I .u16 (1)), (I .u32 (60)), (N), (N), (N), (V false 1 [(I .u8 (10)), (I .u8 (0)), (I .u8 (0)), (I .u8 (2))])]), (G [(V false 1 [(S [110, 115]), (S [97])]), (I .u16 (1)), (I .u16 (1)), (I .u32 (60)), (N), (N), (N), (V false 1 [(I .u8 (10)), (I .u8 (0)), (I .u8 (0)), (I .u8 (1))])]), (G [(V false 1 [(S [42]), (S [119]), (S [97])]), (I .u16 (1)), (I .u16 (1)), (I .u32 (60)), (N), (N), (N), (V false 1 [(I .u8 (10)), (I .u8 (0)), (I .u8 (0)), (I .u8 (3))])]), (G [(V false 1 [(S [119, 119, 119]), (S [97])]), (I .u16 (5)), (I .u16 (1)), (I .u32 (60)), (V false 1 [(V false 1 [(S [110, 115]), (S [97])])]), (N), (N), (N)])])
noncomputable def pv6 : AV := (T [(V true 5 [(G [(V true 1 [(S [97])]), (I .u16 (2)), (I .u16 (1)), (I .u32 (60)), (V true 4 [(G [(V true 1 [(V true 1 [(S [110, 115]), (S [97])])]), (N), (N), (N)])])]), (G [(V true 1 [(S [97])]), (I .u16 (6)), (I .u16 (1)), (I .u32 (60)), (V true 4 [(G [(V true 1 [(V true 1 [(S [110, 115]), (S [97])]), (V true 1 [(S [97])])]), (V true 1 [(I .u32 (1)), (I .u32 (2)), (I .u32 (3)), (I .u32 (4)), (I .u32 (30))]), (N), (N)])])]), (G [(V true 1 [(S [98]), (S [97])]), (I .u16 (2)), (I .u16 (1)), (I .u32 (60)), (V true 4 [(G [(V true 1 [(V true 1 [(S [110, 115]), (S [98]), (S [97])])]), (N), (N), (N)])])]), (G [(V true 1 [(S [110, 115]), (S [98]), (S [97])]), (I .u16 (1)), (I .u16 (1)), (I .u32 (60)), (V true 4 [(G [(N), (N), (N), (V true 1 [(I .u8 (10)), (I .u8 (0)), (I .u8 (0)), (I .u8 (2))])])])]), (G [(V true 1 [(S [110, 115]), (S [97])]), (I .u16 (1)), (I .u16 (1)), (I .u32 (60)), (V true 4 [(G [(N), (N), (N), (V true 1 [(I .u8 (10)), (I .u8 (0)), (I .u8 (0)), (I .u8 (1))])])])]), (G [(V true 1 [(S [42]), (S [119]), (S [97])]), (I .u16 (1)), (I .u16 (1)), (I .u32 (60)), (V true 4 [(G [(N), (N), (N), (V true 1 [(I .u8 (10)), (I .u8 (0)), (I .u8 (0)), (I .u8 (3))])])])]), (G [(V true 1 [(S [119, 119, 119]), (S [97])]), (I .u16 (5)), (I .u16 (1)), (I .u32 (60)), (V true 4 [(G [(V true 1 [(V true 1 [(S [110, 115]), (S [97])])]), (N), (N), (N)])])])]), (I .i64 (0))])
noncomputable def pa4 : List AV := [pv5]
noncomputable def pr4 : AV := pv6
theorem pm4 : pr4.fresh = true ∧ CallPure PP 92 pa4 pr4 :=
  callPure_ran (n := 60) (lookN_ok pb0Ok.1 pb0Ok.2 mixed 100000 60).1 (by kernel_rfl) (by kernel_rfl)
noncomputable def pv7 : AV := (T [(G [(V true 1 [(S [97])]), (V true 5 [(G [(V true 1 [(S [97])]), (I .u16 (2)), (I .u16 (1)), (I .u32 (60)), (V true 4 [(G [(V true 1 [(V true 1 [(S [110, 115]), (S [97])])]), (N), (N), (N)])])]), (G [(V true 1 [(S [97])]), (I .u16 (6)), (I .u16 (1)), (I .u32 (60)), (V true 4 [(G [(V true 1 [(V true 1 [(S [110, 115]), (S [97])]), (V true 1 [(S [97])])]), (V true 1 [(I .u32 (1)), (I .u32 (2)), (I .u32 (3)), (I .u32 (4)), (I .u32 (30))]), (N), (N)])])]), (G [(V true 1 [(S [98]), (S [97])]), (I .u16 (2)), (I .u16 (1)), (I .u32 (60)), (V true 4 [(G [(V true 1 [(V true 1 [(S [110, 115]), (S [98]), (S [97])])]), (N), (N), (N)])])]), (G [(V true 1 [(S [110, 115]), (S [98]), (S [97])]), (I .u16 (1)), (I .u16 (1)), (I .u32 (60)), (V true 4 [(G [(N), (N), (N), (V true 1 [(I .u8 (10)), (I .u8 (0)), (I .u8 (0)), (I .u8 (2))])])])]), (G [(V true 1 [(S [110, 115]), (S [97])]), (I .u16 (1)), (I .u16 (1)), (I .u32 (60)), (V true 4 [(G [(N), (N), (N), (V true 1 [(I .u8 (10)), (I .u8 (0)), (I .u8 (0)), (I .u8 (1))])])])]), (G [(V true 1 [(S [42]), (S [119]), (S [97])]), (I .u16 (1)), (I .u16 (1)), (I .u32 (60)), (V true 4 [(G [(N), (N), (N), (V true 1 [(I .u8 (10)), (I .u8 (0)), (I .u8 (0)), (I .u8 (3))])])])]), (G [(V true 1 [(S [119, 119, 119]), (S [97])]), (I .u16 (5)), (I .u16 (1)), (I .u32 (60)), (V true 4 [(G [(V true 1 [(V true 1 [(S [110, 115]), (S [97])])]), (N), (N), (N)])])])])]), (I .i64 (0))])
noncomputable def pb3 : Look := lookOf [(202, true, sameE), (212, true, compareE), (52, false, memoM 60 [(pa0, pr0)]), (91, false, memoM 60 [(pa2, pr2)])]
theorem pb3Ok : LookOk PP pb3 ∧ LookFr pb3 :=
  lookOf_cons (fun args => same_call (fn := (PP.funcs[202]?).getD default) (by kernel_rfl) (by kernel_rfl) (by kernel_rfl) (by kernel_rfl) (by kernel_rfl) args) (fun args => sameE_framed args) (lookOf_cons (fun args => compare_call (fn := (PP.funcs[212]?).getD default) (by kernel_rfl) (by kernel_rfl) (by kernel_rfl) (by kernel_rfl) (by kernel_rfl) args) (fun args => compareE_framed args) (lookOf_cons (fun args => memo_call (MemoOk.cons pm0.1 pm0.2 (MemoOk.nil)) args) (fun args => memo_framed 60 _ args) (lookOf_cons (fun args => memo_call (MemoOk.cons pm2.1 pm2.2 (MemoOk.nil)) args) (fun args => memo_framed 60 _ args) (lookOf_nil))))
noncomputable def pa5 : List AV := [(V false 1 [(S [97])]), pv0]
noncomputable def pr5 : AV := pv7
theorem pm5 : pr5.fresh = true ∧ CallPure PP 93 pa5 pr5 :=
  callPure_ran (n := 60) (lookN_ok pb3Ok.1 pb3Ok.2 mixed 100000 60).1 (by kernel_rfl) (by kernel_rfl)
noncomputable def pb4 : Look := lookOf [(202, true, sameE), (212, true, compareE), (92, false, memoM 60 [(pa4, pr4)]), (93, false, memoM 60 [(pa5, pr5)])]
theorem pb4Ok : LookOk PP pb4 ∧ LookFr pb4 :=
  lookOf_cons (fun args => same_call (fn := (PP.funcs[202]?).getD default) (by kernel_rfl) (by kernel_rfl) (by kernel_rfl) (by kernel_rfl) (by kernel_rfl) args) (fun args => sameE_framed args) (lookOf_cons (fun args => compare_call (fn := (PP.funcs[212]?).getD default) (by kernel_rfl) (by kernel_rfl) (by kernel_rfl) (by kernel_rfl) (by kernel_rfl) args) (fun args => compareE_framed args) (lookOf_cons (fun args => memo_call (MemoOk.cons pm4.1 pm4.2 (MemoOk.nil)) args) (fun args => memo_framed 60 _ args) (lookOf_cons (fun args => memo_call (MemoOk.cons pm5.1 pm5.2 (MemoOk.nil)) args) (fun args => memo_framed 60 _ args) (lookOf_nil))))
noncomputable def pa6 : List AV := [(V false 1 [(S [97])]), pv5]
noncomputable def pr6 : AV := pv7
theorem pm6 : pr6.fresh = true ∧ CallPure PP 48 pa6 pr6 :=
  callPure_ran (n := 60) (lookN_ok pb4Ok.1 pb4Ok.2 mixed 100000 60).1 (by kernel_rfl) (by kernel_rfl)
noncomputable def pa7 : List AV := [pv3, (V false 1 [(S [119, 119, 119]), (S [97])])]
noncomputable def pr7 : AV := (I .i64 (0))
theorem pm7 : pr7.fresh = true ∧ CallPure PP 158 pa7 pr7 :=
  callPure_ran (n := 60) (lookN_ok pb2Ok.1 pb2Ok.2 mixed 100000 60).1 (by kernel_rfl) (by kernel_rfl)
noncomputable def pa8 : List AV := [pv3, (V false 1 [(S [119, 119, 119]), (S [97])])]
noncomputable def pr8 : AV := (B true)
theorem pm8 : pr8.fresh = true ∧ CallPure PP 161 pa8 pr8 :=
  callPure_ran (n := 60) (lookN_ok pb0Ok.1 pb0Ok.2 mixed 100000 60).1 (by kernel_rfl) (by kernel_rfl)
noncomputable def pb5 : Look := lookOf [(202, true, sameE), (212, true, compareE), (161, false, memoM 60 [(pa8, pr8)])]
theorem pb5Ok : LookOk PP pb5 ∧ LookFr pb5 :=
  lookOf_cons (fun args => same_call (fn := (PP.funcs[202]?).getD default) (by kernel_rfl) (by kernel_rfl) (by kernel_rfl) (by kernel_rfl) (by kernel_rfl) args) (fun args => sameE_framed args) (lookOf_cons (fun args => compare_call (fn := (PP.funcs[212]?).getD default) (by kernel_rfl) (by kernel_rfl) (by kernel_rfl) (by kernel_rfl) (by kernel_rfl) args) (fun args => compareE_framed args) (lookOf_cons (fun args => memo_call (MemoOk.cons pm8.1 pm8.2 (MemoOk.nil)) args) (fun args => memo_framed 60 _ args) (lookOf_nil)))
noncomputable def pa9 : List AV := [pv3, (V false 1 [(S [119, 119, 119]), (S [97])])]
noncomputable def pr9 : AV := (V true 1 [(S [119, 119, 119]), (S [97])])
theorem pm9 : pr9.fresh = true ∧ CallPure PP 159 pa9 pr9 :=
  callPure_ran (n := 60) (lookN_ok pb5Ok.1 pb5Ok.2 mixed 100000 60).1 (by kernel_rfl) (by kernel_rfl)
noncomputable def pv8 : AV := (T [(G [(I .u8 (1)), (V true 1 [(S [119, 119, 119]), (S [97])]), (V true 1 [(S [119, 119, 119]), (S [97])])]), (I .i64 (0))])
noncomputable def pb6 : Look := lookOf [(202, true, sameE), (212, true, compareE), (158, false, memoM 60 [(pa7, pr7)]), (159, false, memoM 60 [(pa9, pr9)])]
theorem pb6Ok : LookOk PP pb6 ∧ LookFr pb6 :=
  lookOf_cons (fun args => same_call (fn := (PP.funcs[202]?).getD default) (by kernel_rfl) (by kernel_rfl) (by kernel_rfl) (by kernel_rfl) (by kernel_rfl) args) (fun args => sameE_framed args) (lookOf_cons (fun args => compare_call (fn := (PP.funcs[212]?).getD default) (by kernel_rfl) (by kernel_rfl) (by kernel_rfl) (by kernel_rfl) (by kernel_rfl) args) (fun args => compareE_framed args) (lookOf_cons (fun args => memo_call (MemoOk.cons pm7.1 pm7.2 (MemoOk.nil)) args) (fun args => memo_framed 60 _ args) (lookOf_cons (fun args => memo_call (MemoOk.cons pm9.1 pm9.2 (MemoOk.nil)) args) (fun args => memo_framed 60 _ args) (lookOf_nil))))
noncomputable def pa10 : List AV := [pv3, (V false 1 [(S [119, 119, 119]), (S [97])])]
noncomputable def pr10 : AV := pv8
theorem pm10 : pr10.fresh = true ∧ CallPure PP 106 pa10 pr10 :=
  callPure_ran (n := 60) (lookN_ok pb6Ok.1 pb6Ok.2 mixed 100000 60).1 (by kernel_rfl) (by kernel_rfl)
noncomputable def pb7 : Look := lookOf [(202, true, sameE), (212, true, compareE), (106, false, memoM 60 [(pa10, pr10)])]
theorem pb7Ok : LookOk PP pb7 ∧ LookFr pb7 :=
  lookOf_cons (fun args => same_call (fn := (PP.funcs[202]?).getD default) (by kernel_rfl) (by kernel_rfl) (by kernel_rfl) (by kernel_rfl) (by kernel_rfl) args) (fun args => sameE_framed args) (lookOf_cons (fun args => compare_call (fn := (PP.funcs[212]?).getD default) (by kernel_rfl) (by kernel_rfl) (by kernel_rfl) (by kernel_rfl) (by kernel_rfl) args) (fun args => compareE_framed args) (lookOf_cons (fun args => memo_call (MemoOk.cons pm10.1 pm10.2 (MemoOk.nil)) args) (fun args => memo_framed 60 _ args) (lookOf_nil)))
noncomputable def pa11 : List AV := [pv3, (V false 1 [(S [119, 119, 119]), (S [97])]), (I .u16 (1))]
noncomputable def pr11 : AV := pv8
theorem pm11 : pr11.fresh = true ∧ CallPure PP 63 pa11 pr11 :=
  callPure_ran (n := 60) (lookN_ok pb7Ok.1 pb7Ok.2 mixed 100000 60).1 (by kernel_rfl) (by kernel_rfl)
noncomputable def pa12 : List AV := [pv3, (V false 1 [(S [110, 115]), (S [97])])]
noncomputable def pr12 : AV := (I .i64 (0))
theorem pm12 : pr12.fresh = true ∧ CallPure PP 158 pa12 pr12 :=
  callPure_ran (n := 60) (lookN_ok pb2Ok.1 pb2Ok.2 mixed 100000 60).1 (by kernel_rfl) (by kernel_rfl)
noncomputable def pa13 : List AV := [pv3, (V false 1 [(S [110, 115]), (S [97])])]
noncomputable def pr13 : AV := (B true)
theorem pm13 : pr13.fresh = true ∧ CallPure PP 161 pa13 pr13 :=
  callPure_ran (n := 60) (lookN_ok pb0Ok.1 pb0Ok.2 mixed 100000 60).1 (by kernel_rfl) (by kernel_rfl)
noncomputable def pb8 : Look := lookOf [(202, true, sameE), (212, true, compareE), (161, false, memoM 60 [(pa13, pr13)])]
theorem pb8Ok : LookOk PP pb8 ∧ LookFr pb8 :=
  lookOf_cons (fun args => same_call (fn := (PP.funcs[202]?).getD default) (by kernel_rfl) (by kernel_rfl) (by kernel_rfl) (by kernel_rfl) (by kernel_rfl) args) (fun args => sameE_framed args) (lookOf_cons (fun args => compare_call (fn := (PP.funcs[212]?).getD default) (by kernel_rfl) (by kernel_rfl) (by kernel_rfl) (by kernel_rfl) (by kernel_rfl) args) (fun args => compareE_framed args) (lookOf_cons (fun args => memo_call (MemoOk.cons pm13.1 pm13.2 (MemoOk.nil)) args) (fun args => memo_framed 60 _ args) (lookOf_nil)))
noncomputable def pa14 : List AV := [pv3, (V false 1 [(S [110, 115]), (S [97])])]
noncomputable def pr14 : AV := (V true 1 [(S [110, 115]), (S [97])])
theorem pm14 : pr14.fresh = true ∧ CallPure PP 159 pa14 pr14 :=
  callPure_ran (n := 60) (lookN_ok pb8Ok.1 pb8Ok.2 mixed 100000 60).1 (by kernel_rfl) (by kernel_rfl)
noncomputable def pv9 : AV := (T [(G [(I .u8 (1)), (V true 1 [(S [110, 115]), (S [97])]), (V true 1 [(S [110, 115]), (S [97])])]), (I .i64 (0))])
noncomputable def pb9 : Look := lookOf [(202, true, sameE), (212, true, compareE), (158, false, memoM 60 [(pa12, pr12)]), (159, false, memoM 60 [(pa14, pr14)])]
theorem pb9Ok : LookOk PP pb9 ∧ LookFr pb9 :=
  lookOf_cons (fun args => same_call (fn := (PP.funcs[202]?).getD default) (by kernel_rfl) (by kernel_rfl) (by kernel_rfl) (by kernel_rfl) (by kernel_rfl) args) (fun args => sameE_framed args) (lookOf_cons (fun args => compare_call (fn := (PP.funcs[212]?).getD default) (by kernel_rfl) (by kernel_rfl) (by kernel_rfl) (by kernel_rfl) (by kernel_rfl) args) (fun args => compareE_framed args) (lookOf_cons (fun args => memo_call (MemoOk.cons pm12.1 pm12.2 (MemoOk.nil)) args) (fun args => memo_framed 60 _ args) (lookOf_cons (fun args => memo_call (MemoOk.cons pm14.1 pm14.2 (MemoOk.nil)) args) (fun args => memo_framed 60 _ args) (lookOf_nil))))
noncomputable def pa15 : List AV := [pv3, (V false 1 [(S [110, 115]), (S [97])])]
noncomputable def pr15 : AV := pv9
theorem pm15 : pr15.fresh = true ∧ CallPure PP 106 pa15 pr15 :=
  callPure_ran (n := 60) (lookN_ok pb9Ok.1 pb9Ok.2 mixed 100000 60).1 (by kernel_rfl) (by kernel_rfl)
noncomputable def pv10 : AV := (T [(G [(I .i64 (0)), (B true), (V true 5 [(G [(V true 1 [(S [119, 119, 119]), (S [97])]), (I .u16 (5)), (I .u16 (1)), (I .u32 (60)), (V true 4 [(G [(V true 1 [(V true 1 [(S [110, 115]), (S [97])])]), (N), (N), (N)])])]), (G [(V true 1 [(S [110, 115]), (S [97])]), (I .u16 (1)), (I .u16 (1)), (I .u32 (60)), (V true 4 [(G [(N), (N), (N), (V true 1 [(I .u8 (10)), (I .u8 (0)), (I .u8 (0)), (I .u8 (1))])])])])]), (N), (N)]), (I .i64 (0))])
noncomputable def pb10 : Look := lookOf [(202, true, sameE), (212, true, compareE), (63, false, memoM 60 [(pa11, pr11)]), (106, false, memoM 60 [(pa10, pr10), (pa15, pr15)])]
theorem pb10Ok : LookOk PP pb10 ∧ LookFr pb10 :=
  lookOf_cons (fun args => same_call (fn := (PP.funcs[202]?).getD default) (by kernel_rfl) (by kernel_rfl) (by kernel_rfl) (by kernel_rfl) (by kernel_rfl) args) (fun args => sameE_framed args) (lookOf_cons (fun args => compare_call (fn := (PP.funcs[212]?).getD default) (by kernel_rfl) (by kernel_rfl) (by kernel_rfl) (by kernel_rfl) (by kernel_rfl) args) (fun args => compareE_framed args) (lookOf_cons (fun args => memo_call (MemoOk.cons pm11.1 pm11.2 (MemoOk.nil)) args) (fun args => memo_framed 60 _ args) (lookOf_cons (fun args => memo_call (MemoOk.cons pm10.1 pm10.2 (MemoOk.cons pm15.1 pm15.2 (MemoOk.nil))) args) (fun args => memo_framed 60 _ args) (lookOf_nil))))
noncomputable def pa16 : List AV := [pv3, (V false 1 [(S [119, 119, 119]), (S [97])]), (I .u16 (1))]
noncomputable def pr16 : AV := pv10
theorem pm16 : pr16.fresh = true ∧ CallPure PP 27 pa16 pr16 :=
  callPure_ran (n := 60) (lookN_ok pb10Ok.1 pb10Ok.2 mixed 100000 60).1 (by kernel_rfl) (by kernel_rfl)
noncomputable def pv11 : AV := (G [(I .u16 (7)), (B true), (I .i64 (0)), (B true), (B false), (B true), (B false), (B false), (B false), (I .i64 (0)), (V false 3 [(G [(V false 1 [(S [119, 119, 119]), (S [97])]), (I .u16 (1)), (I .u16 (1))])]), (V false 8 [(G [(V false 1 [(S [119, 119, 119]), (S [97])]), (I .u16 (5)), (I .u16 (1)), (I .u32 (60)), (V false 1 [(V false 1 [(S [110, 115]), (S [97])])]), (N), (N), (N)]), (G [(V false 1 [(S [110, 115]), (S [97])]), (I .u16 (1)), (I .u16 (1)), (I .u32 (60)), (N), (N), (N), (V false 1 [(I .u8 (10)), (I .u8 (0)), (I .u8 (0)), (I .u8 (1))])])]), (N), (N)])
noncomputable def pv12 : AV := (G [(I .i64 (1)), (I .i64 (2)), (I .i64 (0)), (I .i64 (0))])
noncomputable def pv13 : AV := (T [(V true 1 [(I .u8 (0)), (I .u8 (7)), (I .u8 (133)), (I .u8 (0)), (I .u8 (0)), (I .u8 (1)), (I .u8 (0)), (I .u8 (2)), (I .u8 (0)), (I .u8 (0)), (I .u8 (0)), (I .u8 (0))]), (I .i64 (0))])
noncomputable def pa17 : List AV := [pv11, pv12]
noncomputable def pr17 : AV := pv13
theorem pm17 : pr17.fresh = true ∧ CallPure PP 14 pa17 pr17 :=
  callPure_ran (n := 60) (lookN_ok pb0Ok.1 pb0Ok.2 mixed 100000 60).1 (by kernel_rfl) (by kernel_rfl)
noncomputable def pv14 : AV := (T [(V true 1 [(I .u8 (0)), (I .u8 (7)), (I .u8 (133)), (I .u8 (0)), (I .u8 (0)), (I .u8 (1)), (I .u8 (0)), (I .u8 (2)), (I .u8 (0)), (I .u8 (0)), (I .u8 (0)), (I .u8 (0)), (I .u8 (3)), (I .u8 (119)), (I .u8 (119)), (I .u8 (119)), (I .u8 (1)), (I .u8 (97)), (I .u8 (0)), (I .u8 (0)), (I .u8 (1)), (I .u8 (0)), (I .u8 (1)), (I .u8 (192)), (I .u8 (12)), (I .u8 (0)), (I .u8 (5)), (I .u8 (0)), (I .u8 (1)), (I .u8 (0)), (I .u8 (0)), (I .u8 (0)), (I .u8 (60)), (I .u8 (0)), (I .u8 (5)), (I .u8 (2)), (I .u8 (110)), (I .u8 (115)), (I .u8 (192)), (I .u8 (16)), (I .u8 (192)), (I .u8 (35)), (I .u8 (0)), (I .u8 (1)), (I .u8 (0)), (I .u8 (1)), (I .u8 (0)), (I .u8 (0)), (I .u8 (0)), (I .u8 (60)), (I .u8 (0)), (I .u8 (4)), (I .u8 (10)), (I .u8 (0)), (I .u8 (0)), (I .u8 (1))]), (I .i64 (0))])
noncomputable def pb11 : Look := lookOf [(202, true, sameE), (212, true, compareE), (14, false, memoM 60 [(pa17, pr17)])]
theorem pb11Ok : LookOk PP pb11 ∧ LookFr pb11 :=
  lookOf_cons (fun args => same_call (fn := (PP.funcs[202]?).getD default) (by kernel_rfl) (by kernel_rfl) (by kernel_rfl) (by kernel_rfl) (by kernel_rfl) args) (fun args => sameE_framed args) (lookOf_cons (fun args => compare_call (fn := (PP.funcs[212]?).getD default) (by kernel_rfl) (by kernel_rfl) (by kernel_rfl) (by kernel_rfl) (by kernel_rfl) args) (fun args => compareE_framed args) (lookOf_cons (fun args => memo_call (MemoOk.cons pm17.1 pm17.2 (MemoOk.nil)) args) (fun args => memo_framed 60 _ args) (lookOf_nil)))
noncomputable def pa18 : List AV := [pv11, (I .i64 (2))]
noncomputable def pr18 : AV := pv14
theorem pm18 : pr18.fresh = true ∧ CallPure PP 31 pa18 pr18 :=
  callPure_ran (n := 60) (lookN_ok pb11Ok.1 pb11Ok.2 mixed 100000 60).1 (by kernel_rfl) (by kernel_rfl)
noncomputable def pb12 : Look := lookOf [(202, true, sameE), (212, true, compareE), (31, false, memoM 60 [(pa18, pr18)])]
theorem pb12Ok : LookOk PP pb12 ∧ LookFr pb12 :=
  lookOf_cons (fun args => same_call (fn := (PP.funcs[202]?).getD default) (by kernel_rfl) (by kernel_rfl) (by kernel_rfl) (by kernel_rfl) (by kernel_rfl) args) (fun args => sameE_framed args) (lookOf_cons (fun args => compare_call (fn := (PP.funcs[212]?).getD default) (by kernel_rfl) (by kernel_rfl) (by kernel_rfl) (by kernel_rfl) (by kernel_rfl) args) (fun args => compareE_framed args) (lookOf_cons (fun args => memo_call (MemoOk.cons pm18.1 pm18.2 (MemoOk.nil)) args) (fun args => memo_framed 60 _ args) (lookOf_nil)))
noncomputable def pa19 : List AV := [pv11]
noncomputable def pr19 : AV := pv14
theorem pm19 : pr19.fresh = true ∧ CallPure PP 12 pa19 pr19 :=
  callPure_ran (n := 60) (lookN_ok pb12Ok.1 pb12Ok.2 mixed 100000 60).1 (by kernel_rfl) (by kernel_rfl)
noncomputable def pb13 : Look := lookOf [(202, true, sameE), (212, true, compareE), (20, false, memoM 60 [(pa1, pr1)]), (47, false, memoM 60 [(pa3, pr3)]), (48, false, memoM 60 [(pa6, pr6)]), (27, false, memoM 60 [(pa16, pr16)]), (12, false, memoM 60 [(pa19, pr19)])]
theorem pb13Ok : LookOk PP pb13 ∧ LookFr pb13 :=
  lookOf_cons (fun args => same_call (fn := (PP.funcs[202]?).getD default) (by kernel_rfl) (by kernel_rfl) (by kernel_rfl) (by kernel_rfl) (by kernel_rfl) args) (fun args => sameE_framed args) (lookOf_cons (fun args => compare_call (fn := (PP.funcs[212]?).getD default) (by kernel_rfl) (by kernel_rfl) (by kernel_rfl) (by kernel_rfl) (by kernel_rfl) args) (fun args => compareE_framed args) (lookOf_cons (fun args => memo_call (MemoOk.cons pm1.1 pm1.2 (MemoOk.nil)) args) (fun args => memo_framed 60 _ args) (lookOf_cons (fun args => memo_call (MemoOk.cons pm3.1 pm3.2 (MemoOk.nil)) args) (fun args => memo_framed 60 _ args) (lookOf_cons (fun args => memo_call (MemoOk.cons pm6.1 pm6.2 (MemoOk.nil)) args) (fun args => memo_framed 60 _ args) (lookOf_cons (fun args => memo_call (MemoOk.cons pm16.1 pm16.2 (MemoOk.nil)) args) (fun args => memo_framed 60 _ args) (lookOf_cons (fun args => memo_call (MemoOk.cons pm19.1 pm19.2 (MemoOk.nil)) args) (fun args => memo_framed 60 _ args) (lookOf_nil)))))))
noncomputable def pa20 : List AV := []
noncomputable def pr20 : AV := (B true)
theorem pm20 : pr20.fresh = true ∧ CallPure PP 7 pa20 pr20 :=
  callPure_ran (n := 60) (lookN_ok pb13Ok.1 pb13Ok.2 mixed 100000 60).1 (by kernel_rfl) (by kernel_rfl)
noncomputable def base : Look := lookOf [(202, true, sameE), (212, true, compareE), (7, false, memoM 60 [(pa20, pr20)])]
theorem baseOk : LookOk PP base ∧ LookFr base :=
  lookOf_cons (fun args => same_call (fn := (PP.funcs[202]?).getD default) (by kernel_rfl) (by kernel_rfl) (by kernel_rfl) (by kernel_rfl) (by kernel_rfl) args) (fun args => sameE_framed args) (lookOf_cons (fun args => compare_call (fn := (PP.funcs[212]?).getD default) (by kernel_rfl) (by kernel_rfl) (by kernel_rfl) (by kernel_rfl) (by kernel_rfl) args) (fun args => compareE_framed args) (lookOf_cons (fun args => memo_call (MemoOk.cons pm20.1 pm20.2 (MemoOk.nil)) args) (fun args => memo_framed 60 _ args) (lookOf_nil)))
noncomputable def look : Look := lookN PP base 100000 60
theorem lookOk : LookOk PP look := (lookN_ok baseOk.1 baseOk.2 mixed 100000 60).1
noncomputable def okRun (r : Option (AV × St)) : Bool := match r with | some p => (match p.1 with | .sc v => (match v with | .bool b => b | _ => false) | _ => false) | none => false
noncomputable def unkA : AC Unit := aU (Tryz.f3.params.toList.map (shapeU PP))
noncomputable def runOf (f : Nat) : Option (AV × St) := match look f with | some p => p.2 (unkA.E ()) (stK []) | none => none
set_option maxRecDepth 1000000
theorem runs : okRun (runOf 3) = true := by kernel_rfl
theorem okRun_some {r : Option (AV × St)} (h : okRun r = true) : ∃ st, r = some (.sc (.bool true), st) := by
  unfold okRun at h
  split at h
  · rename_i p
    obtain ⟨a, st⟩ := p
    dsimp only at h
    split at h
    · split at h
      · subst h; exact ⟨st, rfl⟩
      · cases h
    · cases h
  · cases h
theorem law_pure : CallPure PP 3 (unkA.E ()) (.sc (.bool true)) := by
  obtain ⟨st, h⟩ := okRun_some runs
  unfold runOf at h
  cases hp : look 3 with
  | none => rw [hp] at h; cases h
  | some p =>
    rw [hp] at h
    exact callPure_of_run lookOk hp (by kernel_rfl) (r1 codBool) true true h rfl

theorem own : ownKnob PP.godebug = none := by kernel_rfl
theorem undBool : PP.underlying 4 = some .bool := by kernel_rfl
theorem lifted (os : Os) (started : os.Started) (H : Type) (enc : TypeId × Value → H) :
    ReturnsInHanded {} Tryz.checked os 3 .any (Rows.serveNoneSpec.pre6 enc Tryz.prog Tryz.f3 Rows.serveNoneRow.domain false) (Rows.serveNoneSpec.post enc Tryz.prog Tryz.f3 false true false false) := by
  refine returnsInHanded_of_change (C := Tryz.checked) own started (by kernel_rfl) Tryz.func3
    (ChangeSpec.witness6 (enc := enc) (C := Tryz.checked) false ⟨#[], Tryz.f3.params.map fun t => ((PP.info? t).bind (·.zero)).getD undef, []⟩ 8 (by kernel_rfl) (by kernel_rfl) (by kernel_rfl) (by kernel_rfl)) ?_
  intro W base args ds gs before hval hW _ _
  exact law_post (by kernel_rfl) (by kernel_rfl) (slicesFull_at (by kernel_rfl)) (tb := 4) (by kernel_rfl) rfl (by kernel_rfl) undBool (typesIn_at (by kernel_rfl))
    (fun H ds hl => by match ds, (show ds.length = 3 from hl) with | [_, _, _], _ => rfl) (A := unkA) (rdA_unk _) (N := none) (fun _ _ => law_pure) enc W base args ds gs before hval hW (fun n hn => by cases hn)
theorem over : Rows.serveNoneRow.holds Tryz.pinned (OpenSpec.ofChange Rows.serveNoneSpec) :=
  OpenClaim.holds_of_wide 3 Tryz.f3 rfl rfl rfl rfl rfl rfl rfl ⟨rfl, rfl, rfl, rfl, rfl⟩ rfl rfl rfl rfl rfl (by kernel_rfl) Tryz.func3 (by kernel_rfl)
    (of_decide_eq_true (by kernel_rfl)) (by unfold Func.isWrapper; first | (rw [if_pos (by decide +kernel)]; kernel_rfl) | (rw [if_neg (by decide +kernel)]; exact ⟨rfl, rfl⟩))
    (fun os started H enc _ => lifted os started H enc)
theorem proved : Rows.ServeNoneSaid := over

end Go.Proofs.YtfafccmcholciaaGreat.serveNone
