/- Proved: the law ServeKnown returns true, whatever it is given: its run on abstract values, of which the arguments are unknown, is reckoned by the kernel. No conditions. -/
import Derived.Test.YtnkjblopaagkoaaGreatWxU
import Derived.Test.YtnkjblopaagkoaaGreatWxV
import Derived.Test.YtnkjblopaagkoaaGreatWxR
import Derived.Test.YtnkjblopaagkoaaGreatRows
import Derived.JoinedCond
import Derived.KernelRfl
set_option linter.unusedVariables false
namespace Go.Proofs.YtnkjblopaagkoaaGreat.serveKnown
open Go.Vm Go.Vm.Lit Go.ChangeShapes Go.WideShapes Go.ChangeAt

noncomputable abbrev PP := Tryz.prog
theorem mixed : PP.follows .mixedOrders = true := by kernel_rfl
set_option maxRecDepth 1000000
noncomputable def pv0 : AV := (G [(V false 1 [(S [97])]), (V false 5 [(G [(V false 1 [(S [97])]), (I .u16 (2)), (I .u16 (1)), (I .u32 (60)), (V false 4 [(G [(V false 1 [(V false 1 [(S [110, 115]), (S [97])])]), (N), (N), (N)])])]), (G [(V false 1 [(S [97])]), (I .u16 (6)), (I .u16 (1)), (I .u32 (60)), (V false 4 [(G [(V false 1 [(V false 1 [(S [110, 115]), (S [97])]), (V false 1 [(S [97])])]), (V false 1 [(I .u32 (1)), (I .u32 (2)), (I .u32 (3)), (I .u32 (4)), (I .u32 (30))]), (N), (N)])])]), (G [(V false 1 [(S [98]), (S [97])]), (I .u16 (2)), (I .u16 (1)), (I .u32 (60)), (V false 4 [(G [(V false 1 [(V false 1 [(S [110, 115]), (S [98]), (S [97])])]), (N), (N), (N)])])]), (G [(V false 1 [(S [110, 115]), (S [98]), (S [97])]), (I .u16 (1)), (I .u16 (1)), (I .u32 (60)), (V false 4 [(G [(N), (N), (N), (V false 1 [(I .u8 (10)), (I .u8 (0)), (I .u8 (0)), (I .u8 (2))])])])]), (G [(V false 1 [(S [110, 115]), (S [97])]), (I .u16 (1)), (I .u16 (1)), (I .u32 (60)), (V false 4 [(G [(N), (N), (N), (V false 1 [(I .u8 (10)), (I .u8 (0)), (I .u8 (0)), (I .u8 (1))])])])]), (G [(V false 1 [(S [42]), (S [119]), (S [97])]), (I .u16 (1)), (I .u16 (1)), (I .u32 (60)), (V false 4 [(G [(N), (N), (N), (V false 1 [(I .u8 (10)), (I .u8 (0)), (I .u8 (0)), (I .u8 (3))])])])]), (G [(V false 1 [(S [119, 119, 119]), (S [97])]), (I .u16 (5)), (I .u16 (1)), (I .u32 (60)), (V false 4 [(G [(V false 1 [(V false 1 [(S [110, 115]), (S [97])])]), (N), (N), (N)])])])])])
noncomputable def pb0 : Look := lookOf [(189, true, sameE), (158, true, compareE)]
theorem pb0Ok : LookOk PP pb0 ∧ LookFr pb0 :=
  lookOf_cons (fun args => same_call (fn := (PP.funcs[189]?).getD default) (by kernel_rfl) (by kernel_rfl) (by kernel_rfl) (by kernel_rfl) (by kernel_rfl) args) (fun args => sameE_framed args) (lookOf_cons (fun args => compare_call (fn := (PP.funcs[158]?).getD default) (by kernel_rfl) (by kernel_rfl) (by kernel_rfl) (by kernel_rfl) (by kernel_rfl) args) (fun args => compareE_framed args) (lookOf_nil))
noncomputable def pa0 : List AV := [pv0]
noncomputable def pr0 : AV := (I .i64 (0))
theorem pm0 : pr0.fresh = true ∧ CallPure PP 6 pa0 pr0 :=
  callPure_ran (n := 60) (lookN_ok pb0Ok.1 pb0Ok.2 mixed 100000 60).1 (by kernel_rfl) (by kernel_rfl)
noncomputable def pv1 : AV := (T [(V true 8 [(G [(V true 1 [(S [97])]), (I .u16 (2)), (I .u16 (1)), (I .u32 (60)), (V true 1 [(V true 1 [(S [110, 115]), (S [97])])]), (N), (N), (N)]), (G [(V true 1 [(S [97])]), (I .u16 (6)), (I .u16 (1)), (I .u32 (60)), (V true 1 [(V true 1 [(S [110, 115]), (S [97])]), (V true 1 [(S [97])])]), (V true 1 [(I .u32 (1)), (I .u32 (2)), (I .u32 (3)), (I .u32 (4)), (I .u32 (30))]), (N), (N)]), (G [(V true 1 [(S [98]), (S [97])]), (I .u16 (2)), (I .u16 (1)), (I .u32 (60)), (V true 1 [(V true 1 [(S [110, 115]), (S [98]), (S [97])])]), (N), (N), (N)]), (G [(V true 1 [(S [110, 115]), (S [98]), (S [97])]), (I .u16 (1)), (I .u16 (1)), (I .u32 (60)), (N), (N), (N), (V true 1 [(I .u8 (10)), (I .u8 (0)), (I .u8 (0)), (I .u8 (2))])]), (G [(V true 1 [(S [110, 115]), (S [97])]), (I .u16 (1)), (I .u16 (1)), (I .u32 (60)), (N), (N), (N), (V true 1 [(I .u8 (10)), (I .u8 (0)), (I .u8 (0)), (I .u8 (1))])]), (G [(V true 1 [(S [42]), (S [119]), (S [97])]), (I .u16 (1)), (I .u16 (1)), (I .u32 (60)), (N), (N), (N), (V true 1 [(I .u8 (10)), (I .u8 (0)), (I .u8 (0)), (I .u8 (3))])]), (G [(V true 1 [(S [119, 119, 119]), (S [97])]), (I .u16 (5)), (I .u16 (1)), (I .u32 (60)), (V true 1 [(V true 1 [(S [110, 115]), (S [97])])]), (N), (N), (N)])]), (I .i64 (0))])
noncomputable def pb1 : Look := lookOf [(189, true, sameE), (158, true, compareE), (6, false, memoM 60 [(pa0, pr0)])]
theorem pb1Ok : LookOk PP pb1 ∧ LookFr pb1 :=
  lookOf_cons (fun args => same_call (fn := (PP.funcs[189]?).getD default) (by kernel_rfl) (by kernel_rfl) (by kernel_rfl) (by kernel_rfl) (by kernel_rfl) args) (fun args => sameE_framed args) (lookOf_cons (fun args => compare_call (fn := (PP.funcs[158]?).getD default) (by kernel_rfl) (by kernel_rfl) (by kernel_rfl) (by kernel_rfl) (by kernel_rfl) args) (fun args => compareE_framed args) (lookOf_cons (fun args => memo_call (MemoOk.cons pm0.1 pm0.2 (MemoOk.nil)) args) (fun args => memo_framed 60 _ args) (lookOf_nil)))
noncomputable def pa1 : List AV := [pv0]
noncomputable def pr1 : AV := pv1
theorem pm1 : pr1.fresh = true ∧ CallPure PP 18 pa1 pr1 :=
  callPure_ran (n := 60) (lookN_ok pb1Ok.1 pb1Ok.2 mixed 100000 60).1 (by kernel_rfl) (by kernel_rfl)
noncomputable def pv2 : AV := (V false 8 [(G [(V false 1 [(S [97])]), (I .u16 (2)), (I .u16 (1)), (I .u32 (60)), (V false 1 [(V false 1 [(S [110, 115]), (S [97])])]), (N), (N), (N)]), (G [(V false 1 [(S [97])]), (I .u16 (6)), (I .u16 (1)), (I .u32 (60)), (V false 1 [(V false 1 [(S [110, 115]), (S [97])]), (V false 1 [(S [97])])]), (V false 1 [(I .u32 (1)), (I .u32 (2)), (I .u32 (3)), (I .u32 (4)), (I .u32 (30))]), (N), (N)]), (G [(V false 1 [(S [98]), (S [97])]), (I .u16 (2)), (I .u16 (1)), (I .u32 (60)), (V false 1 [(V false 1 [(S [110, 115]), (S [98]), (S [97])])]), (N), (N), (N)]), (G [(V false 1 [(S [110, 115]), (S [98]), (S [97])]), (I .u16 (1)), (I .u16 (1)), (I .u32 (60)), (N), (N), (N), (V false 1 [(I .u8 (10)), (I .u8 (0)), (I .u8 (0)), (I .u8 (2))])]), (G [(V false 1 [(S [110, 115]), (S [97])]), (I .u16 (1)), (I .u16 (1)), (I .u32 (60)), (N), (N), (N), (V false 1 [(I .u8 (10)), (I .u8 (0)), (I .u8 (0)), (I .u8 (1))])]), (G [(V false 1 [(S [42]), (S [119]), (S [97])]), (I .u16 (1)), (I .u16 (1)), (I .u32 (60)), (N), (N), (N), (V false 1 [(I .u8 (10)), (I .u8 (0)), (I .u8 (0)), (I .u8 (3))])]), (G [(V false 1 [(S [119, 119, 119]), (S [97])]), (I .u16 (5)), (I .u16 (1)), (I .u32 (60)), (V false 1 [(V false 1 [(S [110, 115]), (S [97])])]), (N), (N), (N)])])
noncomputable def pv3 : AV := (T [(V true 5 [(G [(V true 1 [(S [97])]), (I .u16 (2)), (I .u16 (1)), (I .u32 (60)), (V true 4 [(G [(V true 1 [(V true 1 [(S [110, 115]), (S [97])])]), (N), (N), (N)])])]), (G [(V true 1 [(S [97])]), (I .u16 (6)), (I .u16 (1)), (I .u32 (60)), (V true 4 [(G [(V true 1 [(V true 1 [(S [110, 115]), (S [97])]), (V true 1 [(S [97])])]), (V true 1 [(I .u32 (1)), (I .u32 (2)), (I .u32 (3)), (I .u32 (4)), (I .u32 (30))]), (N), (N)])])]), (G [(V true 1 [(S [98]), (S [97])]), (I .u16 (2)), (I .u16 (1)), (I .u32 (60)), (V true 4 [(G [(V true 1 [(V true 1 [(S [110, 115]), (S [98]), (S [97])])]), (N), (N), (N)])])]), (G [(V true 1 [(S [110, 115]), (S [98]), (S [97])]), (I .u16 (1)), (I .u16 (1)), (I .u32 (60)), (V true 4 [(G [(N), (N), (N), (V true 1 [(I .u8 (10)), (I .u8 (0)), (I .u8 (0)), (I .u8 (2))])])])]), (G [(V true 1 [(S [110, 115]), (S [97])]), (I .u16 (1)), (I .u16 (1)), (I .u32 (60)), (V true 4 [(G [(N), (N), (N), (V true 1 [(I .u8 (10)), (I .u8 (0)), (I .u8 (0)), (I .u8 (1))])])])]), (G [(V true 1 [(S [42]), (S [119]), (S [97])]), (I .u16 (1)), (I .u16 (1)), (I .u32 (60)), (V true 4 [(G [(N), (N), (N), (V true 1 [(I .u8 (10)), (I .u8 (0)), (I .u8 (0)), (I .u8 (3))])])])]), (G [(V true 1 [(S [119, 119, 119]), (S [97])]), (I .u16 (5)), (I .u16 (1)), (I .u32 (60)), (V true 4 [(G [(V true 1 [(V true 1 [(S [110, 115]), (S [97])])]), (N), (N), (N)])])])]), (I .i64 (0))])
noncomputable def pa2 : List AV := [pv2]
noncomputable def pr2 : AV := pv3
theorem pm2 : pr2.fresh = true ∧ CallPure PP 60 pa2 pr2 :=
  callPure_ran (n := 60) (lookN_ok pb0Ok.1 pb0Ok.2 mixed 100000 60).1 (by kernel_rfl) (by kernel_rfl)
noncomputable def pv4 : AV := (V false 5 [(G [(V false 1 [(S [97])]), (I .u16 (2)), (I .u16 (1)), (I .u32 (60)), (V false 4 [(G [(V false 1 [(V false 1 [(S [110, 115]), (S [97])])]), (N), (N), (N)])])]), (G [(V false 1 [(S [97])]), (I .u16 (6)), (I .u16 (1)), (I .u32 (60)), (V false 4 [(G [(V false 1 [(V false 1 [(S [110, 115]), (S [97])]), (V false 1 [(S [97])])]), (V false 1 [(I .u32 (1)), (I .u32 (2)), (I .u32 (3)), (I .u32 (4)), (I .u32 (30))]), (N), (N)])])]), (G [(V false 1 [(S [98]), (S [97])]), (I .u16 (2)), (I .u16 (1)), (I .u32 (60)), (V false 4 [(G [(V false 1 [(V false 1 [(S [110, 115]), (S [98]), (S [97])])]), (N), (N), (N)])])]), (G [(V false 1 [(S [110, 115]), (S [98]), (S [97])]), (I .u16 (1)), (I .u16 (1)), (I .u32 (60)), (V false 4 [(G [(N), (N), (N), (V false 1 [(I .u8 (10)), (I .u8 (0)), (I .u8 (0)), (I .u8 (2))])])])]), (G [(V false 1 [(S [110, 115]), (S [97])]), (I .u16 (1)), (I .u16 (1)), (I .u32 (60)), (V false 4 [(G [(N), (N), (N), (V false 1 [(I .u8 (10)), (I .u8 (0)), (I .u8 (0)), (I .u8 (1))])])])]), (G [(V false 1 [(S [42]), (S [119]), (S [97])]), (I .u16 (1)), (I .u16 (1)), (I .u32 (60)), (V false 4 [(G [(N), (N), (N), (V false 1 [(I .u8 (10)), (I .u8 (0)), (I .u8 (0)), (I .u8 (3))])])])]), (G [(V false 1 [(S [119, 119, 119]), (S [97])]), (I .u16 (5)), (I .u16 (1)), (I .u32 (60)), (V false 4 [(G [(V false 1 [(V false 1 [(S [110, 115]), (S [97])])]), (N), (N), (N)])])])])
noncomputable def pv5 : AV := (T [(G [(V true 1 [(S [97])]), (V true 5 [(G [(V true 1 [(S [97])]), (I .u16 (2)), (I .u16 (1)), (I .u32 (60)), (V true 4 [(G [(V true 1 [(V true 1 [(S [110, 115]), (S [97])])]), (N), (N), (N)])])]), (G [(V true 1 [(S [97])]), (I .u16 (6)), (I .u16 (1)), (I .u32 (60)), (V true 4 [(G [(V true 1 [(V true 1 [(S [110, 115]), (S [97])]), (V true 1 [(S [97])])]), (V true 1 [(I .u32 (1)), (I .u32 (2)), (I .u32 (3)), (I .u32 (4)), (I .u32 (30))]), (N), (N)])])]), (G [(V true 1 [(S [98]), (S [97])]), (I .u16 (2)), (I .u16 (1)), (I .u32 (60)), (V true 4 [(G [(V true 1 [(V true 1 [(S [110, 115]), (S [98]), (S [97])])]), (N), (N), (N)])])]), (G [(V true 1 [(S [110, 115]), (S [98]), (S [97])]), (I .u16 (1)), (I .u16 (1)), (I .u32 (60)), (V true 4 [(G [(N), (N), (N), (V true 1 [(I .u8 (10)), (I .u8 (0)), (I .u8 (0)), (I .u8 (2))])])])]), (G [(V true 1 [(S [110, 115]), (S [97])]), (I .u16 (1)), (I .u16 (1)), (I .u32 (60)), (V true 4 [(G [(N), (N), (N), (V true 1 [(I .u8 (10)), (I .u8 (0)), (I .u8 (0)), (I .u8 (1))])])])]), (G [(V true 1 [(S [42]), (S [119]), (S [97])]), (I .u16 (1)), (I .u16 (1)), (I .u32 (60)), (V true 4 [(G [(N), (N), (N), (V true 1 [(I .u8 (10)), (I .u8 (0)), (I .u8 (0)), (I .u8 (3))])])])]), (G [(V true 1 [(S [119, 119, 119]), (S [97])]), (I .u16 (5)), (I .u16 (1)), (I .u32 (60)), (V true 4 [(G [(V true 1 [(V true 1 [(S [110, 115]), (S [97])])]), (N), (N), (N)])])])])]), (I .i64 (0))])
noncomputable def pa3 : List AV := [(V false 1 [(S [97])]), pv4]
noncomputable def pr3 : AV := pv5
theorem pm3 : pr3.fresh = true ∧ CallPure PP 61 pa3 pr3 :=
  callPure_ran (n := 60) (lookN_ok pb1Ok.1 pb1Ok.2 mixed 100000 60).1 (by kernel_rfl) (by kernel_rfl)
noncomputable def pb2 : Look := lookOf [(189, true, sameE), (158, true, compareE), (60, false, memoM 60 [(pa2, pr2)]), (61, false, memoM 60 [(pa3, pr3)])]
theorem pb2Ok : LookOk PP pb2 ∧ LookFr pb2 :=
  lookOf_cons (fun args => same_call (fn := (PP.funcs[189]?).getD default) (by kernel_rfl) (by kernel_rfl) (by kernel_rfl) (by kernel_rfl) (by kernel_rfl) args) (fun args => sameE_framed args) (lookOf_cons (fun args => compare_call (fn := (PP.funcs[158]?).getD default) (by kernel_rfl) (by kernel_rfl) (by kernel_rfl) (by kernel_rfl) (by kernel_rfl) args) (fun args => compareE_framed args) (lookOf_cons (fun args => memo_call (MemoOk.cons pm2.1 pm2.2 (MemoOk.nil)) args) (fun args => memo_framed 60 _ args) (lookOf_cons (fun args => memo_call (MemoOk.cons pm3.1 pm3.2 (MemoOk.nil)) args) (fun args => memo_framed 60 _ args) (lookOf_nil))))
noncomputable def pa4 : List AV := [(V false 1 [(S [97])]), pv2]
noncomputable def pr4 : AV := pv5
theorem pm4 : pr4.fresh = true ∧ CallPure PP 19 pa4 pr4 :=
  callPure_ran (n := 60) (lookN_ok pb2Ok.1 pb2Ok.2 mixed 100000 60).1 (by kernel_rfl) (by kernel_rfl)
noncomputable def pa5 : List AV := [pv0, (V false 1 [(S [120]), (S [98]), (S [97])])]
noncomputable def pr5 : AV := (I .i64 (0))
theorem pm5 : pr5.fresh = true ∧ CallPure PP 192 pa5 pr5 :=
  callPure_ran (n := 60) (lookN_ok pb1Ok.1 pb1Ok.2 mixed 100000 60).1 (by kernel_rfl) (by kernel_rfl)
noncomputable def pv6 : AV := (T [(G [(I .u8 (4)), (V true 1 [(S [98]), (S [97])]), (N)]), (I .i64 (0))])
noncomputable def pb3 : Look := lookOf [(189, true, sameE), (158, true, compareE), (192, false, memoM 60 [(pa5, pr5)])]
theorem pb3Ok : LookOk PP pb3 ∧ LookFr pb3 :=
  lookOf_cons (fun args => same_call (fn := (PP.funcs[189]?).getD default) (by kernel_rfl) (by kernel_rfl) (by kernel_rfl) (by kernel_rfl) (by kernel_rfl) args) (fun args => sameE_framed args) (lookOf_cons (fun args => compare_call (fn := (PP.funcs[158]?).getD default) (by kernel_rfl) (by kernel_rfl) (by kernel_rfl) (by kernel_rfl) (by kernel_rfl) args) (fun args => compareE_framed args) (lookOf_cons (fun args => memo_call (MemoOk.cons pm5.1 pm5.2 (MemoOk.nil)) args) (fun args => memo_framed 60 _ args) (lookOf_nil)))
noncomputable def pa6 : List AV := [pv0, (V false 1 [(S [120]), (S [98]), (S [97])])]
noncomputable def pr6 : AV := pv6
theorem pm6 : pr6.fresh = true ∧ CallPure PP 165 pa6 pr6 :=
  callPure_ran (n := 60) (lookN_ok pb3Ok.1 pb3Ok.2 mixed 100000 60).1 (by kernel_rfl) (by kernel_rfl)
noncomputable def pb4 : Look := lookOf [(189, true, sameE), (158, true, compareE), (165, false, memoM 60 [(pa6, pr6)])]
theorem pb4Ok : LookOk PP pb4 ∧ LookFr pb4 :=
  lookOf_cons (fun args => same_call (fn := (PP.funcs[189]?).getD default) (by kernel_rfl) (by kernel_rfl) (by kernel_rfl) (by kernel_rfl) (by kernel_rfl) args) (fun args => sameE_framed args) (lookOf_cons (fun args => compare_call (fn := (PP.funcs[158]?).getD default) (by kernel_rfl) (by kernel_rfl) (by kernel_rfl) (by kernel_rfl) (by kernel_rfl) args) (fun args => compareE_framed args) (lookOf_cons (fun args => memo_call (MemoOk.cons pm6.1 pm6.2 (MemoOk.nil)) args) (fun args => memo_framed 60 _ args) (lookOf_nil)))
noncomputable def pa7 : List AV := [pv0, (V false 1 [(S [120]), (S [98]), (S [97])]), (I .u16 (1))]
noncomputable def pr7 : AV := pv6
theorem pm7 : pr7.fresh = true ∧ CallPure PP 127 pa7 pr7 :=
  callPure_ran (n := 60) (lookN_ok pb4Ok.1 pb4Ok.2 mixed 100000 60).1 (by kernel_rfl) (by kernel_rfl)
noncomputable def pv7 : AV := (T [(G [(I .i64 (0)), (B false), (N), (V true 5 [(G [(V true 1 [(S [98]), (S [97])]), (I .u16 (2)), (I .u16 (1)), (I .u32 (60)), (V true 4 [(G [(V true 1 [(V true 1 [(S [110, 115]), (S [98]), (S [97])])]), (N), (N), (N)])])])]), (V true 5 [(G [(V true 1 [(S [110, 115]), (S [98]), (S [97])]), (I .u16 (1)), (I .u16 (1)), (I .u32 (60)), (V true 4 [(G [(N), (N), (N), (V true 1 [(I .u8 (10)), (I .u8 (0)), (I .u8 (0)), (I .u8 (2))])])])])])]), (I .i64 (0))])
noncomputable def pb5 : Look := lookOf [(189, true, sameE), (158, true, compareE), (127, false, memoM 60 [(pa7, pr7)]), (165, false, memoM 60 [(pa6, pr6)])]
theorem pb5Ok : LookOk PP pb5 ∧ LookFr pb5 :=
  lookOf_cons (fun args => same_call (fn := (PP.funcs[189]?).getD default) (by kernel_rfl) (by kernel_rfl) (by kernel_rfl) (by kernel_rfl) (by kernel_rfl) args) (fun args => sameE_framed args) (lookOf_cons (fun args => compare_call (fn := (PP.funcs[158]?).getD default) (by kernel_rfl) (by kernel_rfl) (by kernel_rfl) (by kernel_rfl) (by kernel_rfl) args) (fun args => compareE_framed args) (lookOf_cons (fun args => memo_call (MemoOk.cons pm7.1 pm7.2 (MemoOk.nil)) args) (fun args => memo_framed 60 _ args) (lookOf_cons (fun args => memo_call (MemoOk.cons pm6.1 pm6.2 (MemoOk.nil)) args) (fun args => memo_framed 60 _ args) (lookOf_nil))))
noncomputable def pa8 : List AV := [pv0, (V false 1 [(S [120]), (S [98]), (S [97])]), (I .u16 (1))]
noncomputable def pr8 : AV := pv7
theorem pm8 : pr8.fresh = true ∧ CallPure PP 76 pa8 pr8 :=
  callPure_ran (n := 60) (lookN_ok pb5Ok.1 pb5Ok.2 mixed 100000 60).1 (by kernel_rfl) (by kernel_rfl)
noncomputable def pv8 : AV := (G [(I .u16 (7)), (B true), (I .i64 (0)), (B false), (B false), (B true), (B false), (B false), (B false), (I .i64 (0)), (V false 3 [(G [(V false 1 [(S [120]), (S [98]), (S [97])]), (I .u16 (1)), (I .u16 (1))])]), (N), (V false 8 [(G [(V false 1 [(S [98]), (S [97])]), (I .u16 (2)), (I .u16 (1)), (I .u32 (60)), (V false 1 [(V false 1 [(S [110, 115]), (S [98]), (S [97])])]), (N), (N), (N)])]), (V false 8 [(G [(V false 1 [(S [110, 115]), (S [98]), (S [97])]), (I .u16 (1)), (I .u16 (1)), (I .u32 (60)), (N), (N), (N), (V false 1 [(I .u8 (10)), (I .u8 (0)), (I .u8 (0)), (I .u8 (2))])])])])
noncomputable def pv9 : AV := (G [(I .i64 (1)), (I .i64 (0)), (I .i64 (1)), (I .i64 (1))])
noncomputable def pv10 : AV := (T [(V true 1 [(I .u8 (0)), (I .u8 (7)), (I .u8 (129)), (I .u8 (0)), (I .u8 (0)), (I .u8 (1)), (I .u8 (0)), (I .u8 (0)), (I .u8 (0)), (I .u8 (1)), (I .u8 (0)), (I .u8 (1))]), (I .i64 (0))])
noncomputable def pa9 : List AV := [pv8, pv9]
noncomputable def pr9 : AV := pv10
theorem pm9 : pr9.fresh = true ∧ CallPure PP 47 pa9 pr9 :=
  callPure_ran (n := 60) (lookN_ok pb0Ok.1 pb0Ok.2 mixed 100000 60).1 (by kernel_rfl) (by kernel_rfl)
noncomputable def pv11 : AV := (T [(V true 1 [(I .u8 (0)), (I .u8 (7)), (I .u8 (129)), (I .u8 (0)), (I .u8 (0)), (I .u8 (1)), (I .u8 (0)), (I .u8 (0)), (I .u8 (0)), (I .u8 (1)), (I .u8 (0)), (I .u8 (1)), (I .u8 (1)), (I .u8 (120)), (I .u8 (1)), (I .u8 (98)), (I .u8 (1)), (I .u8 (97)), (I .u8 (0)), (I .u8 (0)), (I .u8 (1)), (I .u8 (0)), (I .u8 (1)), (I .u8 (192)), (I .u8 (14)), (I .u8 (0)), (I .u8 (2)), (I .u8 (0)), (I .u8 (1)), (I .u8 (0)), (I .u8 (0)), (I .u8 (0)), (I .u8 (60)), (I .u8 (0)), (I .u8 (5)), (I .u8 (2)), (I .u8 (110)), (I .u8 (115)), (I .u8 (192)), (I .u8 (14)), (I .u8 (192)), (I .u8 (35)), (I .u8 (0)), (I .u8 (1)), (I .u8 (0)), (I .u8 (1)), (I .u8 (0)), (I .u8 (0)), (I .u8 (0)), (I .u8 (60)), (I .u8 (0)), (I .u8 (4)), (I .u8 (10)), (I .u8 (0)), (I .u8 (0)), (I .u8 (2))]), (I .i64 (0))])
noncomputable def pb6 : Look := lookOf [(189, true, sameE), (158, true, compareE), (47, false, memoM 60 [(pa9, pr9)])]
theorem pb6Ok : LookOk PP pb6 ∧ LookFr pb6 :=
  lookOf_cons (fun args => same_call (fn := (PP.funcs[189]?).getD default) (by kernel_rfl) (by kernel_rfl) (by kernel_rfl) (by kernel_rfl) (by kernel_rfl) args) (fun args => sameE_framed args) (lookOf_cons (fun args => compare_call (fn := (PP.funcs[158]?).getD default) (by kernel_rfl) (by kernel_rfl) (by kernel_rfl) (by kernel_rfl) (by kernel_rfl) args) (fun args => compareE_framed args) (lookOf_cons (fun args => memo_call (MemoOk.cons pm9.1 pm9.2 (MemoOk.nil)) args) (fun args => memo_framed 60 _ args) (lookOf_nil)))
noncomputable def pa10 : List AV := [pv8, (I .i64 (2))]
noncomputable def pr10 : AV := pv11
theorem pm10 : pr10.fresh = true ∧ CallPure PP 78 pa10 pr10 :=
  callPure_ran (n := 60) (lookN_ok pb6Ok.1 pb6Ok.2 mixed 100000 60).1 (by kernel_rfl) (by kernel_rfl)
noncomputable def pb7 : Look := lookOf [(189, true, sameE), (158, true, compareE), (78, false, memoM 60 [(pa10, pr10)])]
theorem pb7Ok : LookOk PP pb7 ∧ LookFr pb7 :=
  lookOf_cons (fun args => same_call (fn := (PP.funcs[189]?).getD default) (by kernel_rfl) (by kernel_rfl) (by kernel_rfl) (by kernel_rfl) (by kernel_rfl) args) (fun args => sameE_framed args) (lookOf_cons (fun args => compare_call (fn := (PP.funcs[158]?).getD default) (by kernel_rfl) (by kernel_rfl) (by kernel_rfl) (by kernel_rfl) (by kernel_rfl) args) (fun args => compareE_framed args) (lookOf_cons (fun args => memo_call (MemoOk.cons pm10.1 pm10.2 (MemoOk.nil)) args) (fun args => memo_framed 60 _ args) (lookOf_nil)))
noncomputable def pa11 : List AV := [pv8]
noncomputable def pr11 : AV := pv11
theorem pm11 : pr11.fresh = true ∧ CallPure PP 39 pa11 pr11 :=
  callPure_ran (n := 60) (lookN_ok pb7Ok.1 pb7Ok.2 mixed 100000 60).1 (by kernel_rfl) (by kernel_rfl)
noncomputable def pv12 : AV := (G [(I .u16 (7)), (B true), (I .i64 (0)), (B false), (B false), (B true), (B false), (B false), (B false), (I .i64 (5)), (V false 3 [(G [(V false 1 [(S [99])]), (I .u16 (1)), (I .u16 (1))])]), (N), (N), (N)])
noncomputable def pv13 : AV := (G [(I .i64 (1)), (I .i64 (0)), (I .i64 (0)), (I .i64 (0))])
noncomputable def pv14 : AV := (T [(V true 1 [(I .u8 (0)), (I .u8 (7)), (I .u8 (129)), (I .u8 (5)), (I .u8 (0)), (I .u8 (1)), (I .u8 (0)), (I .u8 (0)), (I .u8 (0)), (I .u8 (0)), (I .u8 (0)), (I .u8 (0))]), (I .i64 (0))])
noncomputable def pa12 : List AV := [pv12, pv13]
noncomputable def pr12 : AV := pv14
theorem pm12 : pr12.fresh = true ∧ CallPure PP 47 pa12 pr12 :=
  callPure_ran (n := 60) (lookN_ok pb0Ok.1 pb0Ok.2 mixed 100000 60).1 (by kernel_rfl) (by kernel_rfl)
noncomputable def pv15 : AV := (T [(V true 1 [(I .u8 (0)), (I .u8 (7)), (I .u8 (129)), (I .u8 (5)), (I .u8 (0)), (I .u8 (1)), (I .u8 (0)), (I .u8 (0)), (I .u8 (0)), (I .u8 (0)), (I .u8 (0)), (I .u8 (0)), (I .u8 (1)), (I .u8 (99)), (I .u8 (0)), (I .u8 (0)), (I .u8 (1)), (I .u8 (0)), (I .u8 (1))]), (I .i64 (0))])
noncomputable def pb8 : Look := lookOf [(189, true, sameE), (158, true, compareE), (47, false, memoM 60 [(pa12, pr12)])]
theorem pb8Ok : LookOk PP pb8 ∧ LookFr pb8 :=
  lookOf_cons (fun args => same_call (fn := (PP.funcs[189]?).getD default) (by kernel_rfl) (by kernel_rfl) (by kernel_rfl) (by kernel_rfl) (by kernel_rfl) args) (fun args => sameE_framed args) (lookOf_cons (fun args => compare_call (fn := (PP.funcs[158]?).getD default) (by kernel_rfl) (by kernel_rfl) (by kernel_rfl) (by kernel_rfl) (by kernel_rfl) args) (fun args => compareE_framed args) (lookOf_cons (fun args => memo_call (MemoOk.cons pm12.1 pm12.2 (MemoOk.nil)) args) (fun args => memo_framed 60 _ args) (lookOf_nil)))
noncomputable def pa13 : List AV := [pv12, (I .i64 (0))]
noncomputable def pr13 : AV := pv15
theorem pm13 : pr13.fresh = true ∧ CallPure PP 78 pa13 pr13 :=
  callPure_ran (n := 60) (lookN_ok pb8Ok.1 pb8Ok.2 mixed 100000 60).1 (by kernel_rfl) (by kernel_rfl)
noncomputable def pb9 : Look := lookOf [(189, true, sameE), (158, true, compareE), (78, false, memoM 60 [(pa13, pr13)])]
theorem pb9Ok : LookOk PP pb9 ∧ LookFr pb9 :=
  lookOf_cons (fun args => same_call (fn := (PP.funcs[189]?).getD default) (by kernel_rfl) (by kernel_rfl) (by kernel_rfl) (by kernel_rfl) (by kernel_rfl) args) (fun args => sameE_framed args) (lookOf_cons (fun args => compare_call (fn := (PP.funcs[158]?).getD default) (by kernel_rfl) (by kernel_rfl) (by kernel_rfl) (by kernel_rfl) (by kernel_rfl) args) (fun args => compareE_framed args) (lookOf_cons (fun args => memo_call (MemoOk.cons pm13.1 pm13.2 (MemoOk.nil)) args) (fun args => memo_framed 60 _ args) (lookOf_nil)))
noncomputable def pa14 : List AV := [pv12]
noncomputable def pr14 : AV := pv15
theorem pm14 : pr14.fresh = true ∧ CallPure PP 39 pa14 pr14 :=
  callPure_ran (n := 60) (lookN_ok pb9Ok.1 pb9Ok.2 mixed 100000 60).1 (by kernel_rfl) (by kernel_rfl)
noncomputable def pv16 : AV := (G [(I .u16 (7)), (B true), (I .i64 (0)), (B false), (B false), (B true), (B false), (B false), (B false), (I .i64 (4)), (V false 3 [(G [(V false 1 [(S [97])]), (I .u16 (252)), (I .u16 (1))])]), (N), (N), (N)])
noncomputable def pv17 : AV := (T [(V true 1 [(I .u8 (0)), (I .u8 (7)), (I .u8 (129)), (I .u8 (4)), (I .u8 (0)), (I .u8 (1)), (I .u8 (0)), (I .u8 (0)), (I .u8 (0)), (I .u8 (0)), (I .u8 (0)), (I .u8 (0))]), (I .i64 (0))])
noncomputable def pa15 : List AV := [pv16, pv13]
noncomputable def pr15 : AV := pv17
theorem pm15 : pr15.fresh = true ∧ CallPure PP 47 pa15 pr15 :=
  callPure_ran (n := 60) (lookN_ok pb0Ok.1 pb0Ok.2 mixed 100000 60).1 (by kernel_rfl) (by kernel_rfl)
noncomputable def pv18 : AV := (T [(V true 1 [(I .u8 (0)), (I .u8 (7)), (I .u8 (129)), (I .u8 (4)), (I .u8 (0)), (I .u8 (1)), (I .u8 (0)), (I .u8 (0)), (I .u8 (0)), (I .u8 (0)), (I .u8 (0)), (I .u8 (0)), (I .u8 (1)), (I .u8 (97)), (I .u8 (0)), (I .u8 (0)), (I .u8 (252)), (I .u8 (0)), (I .u8 (1))]), (I .i64 (0))])
noncomputable def pb10 : Look := lookOf [(189, true, sameE), (158, true, compareE), (47, false, memoM 60 [(pa15, pr15)])]
theorem pb10Ok : LookOk PP pb10 ∧ LookFr pb10 :=
  lookOf_cons (fun args => same_call (fn := (PP.funcs[189]?).getD default) (by kernel_rfl) (by kernel_rfl) (by kernel_rfl) (by kernel_rfl) (by kernel_rfl) args) (fun args => sameE_framed args) (lookOf_cons (fun args => compare_call (fn := (PP.funcs[158]?).getD default) (by kernel_rfl) (by kernel_rfl) (by kernel_rfl) (by kernel_rfl) (by kernel_rfl) args) (fun args => compareE_framed args) (lookOf_cons (fun args => memo_call (MemoOk.cons pm15.1 pm15.2 (MemoOk.nil)) args) (fun args => memo_framed 60 _ args) (lookOf_nil)))
noncomputable def pa16 : List AV := [pv16, (I .i64 (0))]
noncomputable def pr16 : AV := pv18
theorem pm16 : pr16.fresh = true ∧ CallPure PP 78 pa16 pr16 :=
  callPure_ran (n := 60) (lookN_ok pb10Ok.1 pb10Ok.2 mixed 100000 60).1 (by kernel_rfl) (by kernel_rfl)
noncomputable def pb11 : Look := lookOf [(189, true, sameE), (158, true, compareE), (78, false, memoM 60 [(pa16, pr16)])]
theorem pb11Ok : LookOk PP pb11 ∧ LookFr pb11 :=
  lookOf_cons (fun args => same_call (fn := (PP.funcs[189]?).getD default) (by kernel_rfl) (by kernel_rfl) (by kernel_rfl) (by kernel_rfl) (by kernel_rfl) args) (fun args => sameE_framed args) (lookOf_cons (fun args => compare_call (fn := (PP.funcs[158]?).getD default) (by kernel_rfl) (by kernel_rfl) (by kernel_rfl) (by kernel_rfl) (by kernel_rfl) args) (fun args => compareE_framed args) (lookOf_cons (fun args => memo_call (MemoOk.cons pm16.1 pm16.2 (MemoOk.nil)) args) (fun args => memo_framed 60 _ args) (lookOf_nil)))
noncomputable def pa17 : List AV := [pv16]
noncomputable def pr17 : AV := pv18
theorem pm17 : pr17.fresh = true ∧ CallPure PP 39 pa17 pr17 :=
  callPure_ran (n := 60) (lookN_ok pb11Ok.1 pb11Ok.2 mixed 100000 60).1 (by kernel_rfl) (by kernel_rfl)
noncomputable def pv19 : AV := (G [(I .u16 (7)), (B true), (I .i64 (0)), (B false), (B false), (B true), (B false), (B false), (B false), (I .i64 (1)), (V false 3 [(G [(V false 1 [(S [97])]), (I .u16 (41)), (I .u16 (1))])]), (N), (N), (N)])
noncomputable def pv20 : AV := (T [(V true 1 [(I .u8 (0)), (I .u8 (7)), (I .u8 (129)), (I .u8 (1)), (I .u8 (0)), (I .u8 (1)), (I .u8 (0)), (I .u8 (0)), (I .u8 (0)), (I .u8 (0)), (I .u8 (0)), (I .u8 (0))]), (I .i64 (0))])
noncomputable def pa18 : List AV := [pv19, pv13]
noncomputable def pr18 : AV := pv20
theorem pm18 : pr18.fresh = true ∧ CallPure PP 47 pa18 pr18 :=
  callPure_ran (n := 60) (lookN_ok pb0Ok.1 pb0Ok.2 mixed 100000 60).1 (by kernel_rfl) (by kernel_rfl)
noncomputable def pv21 : AV := (T [(V true 1 [(I .u8 (0)), (I .u8 (7)), (I .u8 (129)), (I .u8 (1)), (I .u8 (0)), (I .u8 (1)), (I .u8 (0)), (I .u8 (0)), (I .u8 (0)), (I .u8 (0)), (I .u8 (0)), (I .u8 (0)), (I .u8 (1)), (I .u8 (97)), (I .u8 (0)), (I .u8 (0)), (I .u8 (41)), (I .u8 (0)), (I .u8 (1))]), (I .i64 (0))])
noncomputable def pb12 : Look := lookOf [(189, true, sameE), (158, true, compareE), (47, false, memoM 60 [(pa18, pr18)])]
theorem pb12Ok : LookOk PP pb12 ∧ LookFr pb12 :=
  lookOf_cons (fun args => same_call (fn := (PP.funcs[189]?).getD default) (by kernel_rfl) (by kernel_rfl) (by kernel_rfl) (by kernel_rfl) (by kernel_rfl) args) (fun args => sameE_framed args) (lookOf_cons (fun args => compare_call (fn := (PP.funcs[158]?).getD default) (by kernel_rfl) (by kernel_rfl) (by kernel_rfl) (by kernel_rfl) (by kernel_rfl) args) (fun args => compareE_framed args) (lookOf_cons (fun args => memo_call (MemoOk.cons pm18.1 pm18.2 (MemoOk.nil)) args) (fun args => memo_framed 60 _ args) (lookOf_nil)))
noncomputable def pa19 : List AV := [pv19, (I .i64 (0))]
noncomputable def pr19 : AV := pv21
theorem pm19 : pr19.fresh = true ∧ CallPure PP 78 pa19 pr19 :=
  callPure_ran (n := 60) (lookN_ok pb12Ok.1 pb12Ok.2 mixed 100000 60).1 (by kernel_rfl) (by kernel_rfl)
noncomputable def pb13 : Look := lookOf [(189, true, sameE), (158, true, compareE), (78, false, memoM 60 [(pa19, pr19)])]
theorem pb13Ok : LookOk PP pb13 ∧ LookFr pb13 :=
  lookOf_cons (fun args => same_call (fn := (PP.funcs[189]?).getD default) (by kernel_rfl) (by kernel_rfl) (by kernel_rfl) (by kernel_rfl) (by kernel_rfl) args) (fun args => sameE_framed args) (lookOf_cons (fun args => compare_call (fn := (PP.funcs[158]?).getD default) (by kernel_rfl) (by kernel_rfl) (by kernel_rfl) (by kernel_rfl) (by kernel_rfl) args) (fun args => compareE_framed args) (lookOf_cons (fun args => memo_call (MemoOk.cons pm19.1 pm19.2 (MemoOk.nil)) args) (fun args => memo_framed 60 _ args) (lookOf_nil)))
noncomputable def pa20 : List AV := [pv19]
noncomputable def pr20 : AV := pv21
theorem pm20 : pr20.fresh = true ∧ CallPure PP 39 pa20 pr20 :=
  callPure_ran (n := 60) (lookN_ok pb13Ok.1 pb13Ok.2 mixed 100000 60).1 (by kernel_rfl) (by kernel_rfl)
noncomputable def pv22 : AV := (G [(I .u16 (7)), (B true), (I .i64 (0)), (B false), (B false), (B true), (B false), (B false), (B false), (I .i64 (1)), (V false 3 [(G [(V false 1 [(S [97])]), (I .u16 (0)), (I .u16 (1))])]), (N), (N), (N)])
noncomputable def pa21 : List AV := [pv22, pv13]
noncomputable def pr21 : AV := pv20
theorem pm21 : pr21.fresh = true ∧ CallPure PP 47 pa21 pr21 :=
  callPure_ran (n := 60) (lookN_ok pb0Ok.1 pb0Ok.2 mixed 100000 60).1 (by kernel_rfl) (by kernel_rfl)
noncomputable def pv23 : AV := (T [(V true 1 [(I .u8 (0)), (I .u8 (7)), (I .u8 (129)), (I .u8 (1)), (I .u8 (0)), (I .u8 (1)), (I .u8 (0)), (I .u8 (0)), (I .u8 (0)), (I .u8 (0)), (I .u8 (0)), (I .u8 (0)), (I .u8 (1)), (I .u8 (97)), (I .u8 (0)), (I .u8 (0)), (I .u8 (0)), (I .u8 (0)), (I .u8 (1))]), (I .i64 (0))])
noncomputable def pb14 : Look := lookOf [(189, true, sameE), (158, true, compareE), (47, false, memoM 60 [(pa21, pr21)])]
theorem pb14Ok : LookOk PP pb14 ∧ LookFr pb14 :=
  lookOf_cons (fun args => same_call (fn := (PP.funcs[189]?).getD default) (by kernel_rfl) (by kernel_rfl) (by kernel_rfl) (by kernel_rfl) (by kernel_rfl) args) (fun args => sameE_framed args) (lookOf_cons (fun args => compare_call (fn := (PP.funcs[158]?).getD default) (by kernel_rfl) (by kernel_rfl) (by kernel_rfl) (by kernel_rfl) (by kernel_rfl) args) (fun args => compareE_framed args) (lookOf_cons (fun args => memo_call (MemoOk.cons pm21.1 pm21.2 (MemoOk.nil)) args) (fun args => memo_framed 60 _ args) (lookOf_nil)))
noncomputable def pa22 : List AV := [pv22, (I .i64 (0))]
noncomputable def pr22 : AV := pv23
theorem pm22 : pr22.fresh = true ∧ CallPure PP 78 pa22 pr22 :=
  callPure_ran (n := 60) (lookN_ok pb14Ok.1 pb14Ok.2 mixed 100000 60).1 (by kernel_rfl) (by kernel_rfl)
noncomputable def pb15 : Look := lookOf [(189, true, sameE), (158, true, compareE), (78, false, memoM 60 [(pa22, pr22)])]
theorem pb15Ok : LookOk PP pb15 ∧ LookFr pb15 :=
  lookOf_cons (fun args => same_call (fn := (PP.funcs[189]?).getD default) (by kernel_rfl) (by kernel_rfl) (by kernel_rfl) (by kernel_rfl) (by kernel_rfl) args) (fun args => sameE_framed args) (lookOf_cons (fun args => compare_call (fn := (PP.funcs[158]?).getD default) (by kernel_rfl) (by kernel_rfl) (by kernel_rfl) (by kernel_rfl) (by kernel_rfl) args) (fun args => compareE_framed args) (lookOf_cons (fun args => memo_call (MemoOk.cons pm22.1 pm22.2 (MemoOk.nil)) args) (fun args => memo_framed 60 _ args) (lookOf_nil)))
noncomputable def pa23 : List AV := [pv22]
noncomputable def pr23 : AV := pv23
theorem pm23 : pr23.fresh = true ∧ CallPure PP 39 pa23 pr23 :=
  callPure_ran (n := 60) (lookN_ok pb15Ok.1 pb15Ok.2 mixed 100000 60).1 (by kernel_rfl) (by kernel_rfl)
noncomputable def pv24 : AV := (G [(I .u16 (7)), (B true), (I .i64 (0)), (B false), (B false), (B true), (B false), (B false), (B false), (I .i64 (5)), (V false 3 [(G [(V false 1 [(S [97])]), (I .u16 (1)), (I .u16 (3))])]), (N), (N), (N)])
noncomputable def pa24 : List AV := [pv24, pv13]
noncomputable def pr24 : AV := pv14
theorem pm24 : pr24.fresh = true ∧ CallPure PP 47 pa24 pr24 :=
  callPure_ran (n := 60) (lookN_ok pb0Ok.1 pb0Ok.2 mixed 100000 60).1 (by kernel_rfl) (by kernel_rfl)
noncomputable def pv25 : AV := (T [(V true 1 [(I .u8 (0)), (I .u8 (7)), (I .u8 (129)), (I .u8 (5)), (I .u8 (0)), (I .u8 (1)), (I .u8 (0)), (I .u8 (0)), (I .u8 (0)), (I .u8 (0)), (I .u8 (0)), (I .u8 (0)), (I .u8 (1)), (I .u8 (97)), (I .u8 (0)), (I .u8 (0)), (I .u8 (1)), (I .u8 (0)), (I .u8 (3))]), (I .i64 (0))])
noncomputable def pb16 : Look := lookOf [(189, true, sameE), (158, true, compareE), (47, false, memoM 60 [(pa24, pr24)])]
theorem pb16Ok : LookOk PP pb16 ∧ LookFr pb16 :=
  lookOf_cons (fun args => same_call (fn := (PP.funcs[189]?).getD default) (by kernel_rfl) (by kernel_rfl) (by kernel_rfl) (by kernel_rfl) (by kernel_rfl) args) (fun args => sameE_framed args) (lookOf_cons (fun args => compare_call (fn := (PP.funcs[158]?).getD default) (by kernel_rfl) (by kernel_rfl) (by kernel_rfl) (by kernel_rfl) (by kernel_rfl) args) (fun args => compareE_framed args) (lookOf_cons (fun args => memo_call (MemoOk.cons pm24.1 pm24.2 (MemoOk.nil)) args) (fun args => memo_framed 60 _ args) (lookOf_nil)))
noncomputable def pa25 : List AV := [pv24, (I .i64 (0))]
noncomputable def pr25 : AV := pv25
theorem pm25 : pr25.fresh = true ∧ CallPure PP 78 pa25 pr25 :=
  callPure_ran (n := 60) (lookN_ok pb16Ok.1 pb16Ok.2 mixed 100000 60).1 (by kernel_rfl) (by kernel_rfl)
noncomputable def pb17 : Look := lookOf [(189, true, sameE), (158, true, compareE), (78, false, memoM 60 [(pa25, pr25)])]
theorem pb17Ok : LookOk PP pb17 ∧ LookFr pb17 :=
  lookOf_cons (fun args => same_call (fn := (PP.funcs[189]?).getD default) (by kernel_rfl) (by kernel_rfl) (by kernel_rfl) (by kernel_rfl) (by kernel_rfl) args) (fun args => sameE_framed args) (lookOf_cons (fun args => compare_call (fn := (PP.funcs[158]?).getD default) (by kernel_rfl) (by kernel_rfl) (by kernel_rfl) (by kernel_rfl) (by kernel_rfl) args) (fun args => compareE_framed args) (lookOf_cons (fun args => memo_call (MemoOk.cons pm25.1 pm25.2 (MemoOk.nil)) args) (fun args => memo_framed 60 _ args) (lookOf_nil)))
noncomputable def pa26 : List AV := [pv24]
noncomputable def pr26 : AV := pv25
theorem pm26 : pr26.fresh = true ∧ CallPure PP 39 pa26 pr26 :=
  callPure_ran (n := 60) (lookN_ok pb17Ok.1 pb17Ok.2 mixed 100000 60).1 (by kernel_rfl) (by kernel_rfl)
noncomputable def pv26 : AV := (G [(I .u16 (7)), (B true), (I .i64 (0)), (B false), (B false), (B true), (B false), (B false), (B false), (I .i64 (1)), (V false 3 [(G [(V false 1 [(S [97])]), (I .u16 (1)), (I .u16 (1))]), (G [(V false 1 [(S [97])]), (I .u16 (1)), (I .u16 (1))])]), (N), (N), (N)])
noncomputable def pv27 : AV := (G [(I .i64 (2)), (I .i64 (0)), (I .i64 (0)), (I .i64 (0))])
noncomputable def pv28 : AV := (T [(V true 1 [(I .u8 (0)), (I .u8 (7)), (I .u8 (129)), (I .u8 (1)), (I .u8 (0)), (I .u8 (2)), (I .u8 (0)), (I .u8 (0)), (I .u8 (0)), (I .u8 (0)), (I .u8 (0)), (I .u8 (0))]), (I .i64 (0))])
noncomputable def pa27 : List AV := [pv26, pv27]
noncomputable def pr27 : AV := pv28
theorem pm27 : pr27.fresh = true ∧ CallPure PP 47 pa27 pr27 :=
  callPure_ran (n := 60) (lookN_ok pb0Ok.1 pb0Ok.2 mixed 100000 60).1 (by kernel_rfl) (by kernel_rfl)
noncomputable def pv29 : AV := (T [(V true 1 [(I .u8 (0)), (I .u8 (7)), (I .u8 (129)), (I .u8 (1)), (I .u8 (0)), (I .u8 (2)), (I .u8 (0)), (I .u8 (0)), (I .u8 (0)), (I .u8 (0)), (I .u8 (0)), (I .u8 (0)), (I .u8 (1)), (I .u8 (97)), (I .u8 (0)), (I .u8 (0)), (I .u8 (1)), (I .u8 (0)), (I .u8 (1)), (I .u8 (192)), (I .u8 (12)), (I .u8 (0)), (I .u8 (1)), (I .u8 (0)), (I .u8 (1))]), (I .i64 (0))])
noncomputable def pb18 : Look := lookOf [(189, true, sameE), (158, true, compareE), (47, false, memoM 60 [(pa27, pr27)])]
theorem pb18Ok : LookOk PP pb18 ∧ LookFr pb18 :=
  lookOf_cons (fun args => same_call (fn := (PP.funcs[189]?).getD default) (by kernel_rfl) (by kernel_rfl) (by kernel_rfl) (by kernel_rfl) (by kernel_rfl) args) (fun args => sameE_framed args) (lookOf_cons (fun args => compare_call (fn := (PP.funcs[158]?).getD default) (by kernel_rfl) (by kernel_rfl) (by kernel_rfl) (by kernel_rfl) (by kernel_rfl) args) (fun args => compareE_framed args) (lookOf_cons (fun args => memo_call (MemoOk.cons pm27.1 pm27.2 (MemoOk.nil)) args) (fun args => memo_framed 60 _ args) (lookOf_nil)))
noncomputable def pa28 : List AV := [pv26, (I .i64 (0))]
noncomputable def pr28 : AV := pv29
theorem pm28 : pr28.fresh = true ∧ CallPure PP 78 pa28 pr28 :=
  callPure_ran (n := 60) (lookN_ok pb18Ok.1 pb18Ok.2 mixed 100000 60).1 (by kernel_rfl) (by kernel_rfl)
noncomputable def pb19 : Look := lookOf [(189, true, sameE), (158, true, compareE), (78, false, memoM 60 [(pa28, pr28)])]
theorem pb19Ok : LookOk PP pb19 ∧ LookFr pb19 :=
  lookOf_cons (fun args => same_call (fn := (PP.funcs[189]?).getD default) (by kernel_rfl) (by kernel_rfl) (by kernel_rfl) (by kernel_rfl) (by kernel_rfl) args) (fun args => sameE_framed args) (lookOf_cons (fun args => compare_call (fn := (PP.funcs[158]?).getD default) (by kernel_rfl) (by kernel_rfl) (by kernel_rfl) (by kernel_rfl) (by kernel_rfl) args) (fun args => compareE_framed args) (lookOf_cons (fun args => memo_call (MemoOk.cons pm28.1 pm28.2 (MemoOk.nil)) args) (fun args => memo_framed 60 _ args) (lookOf_nil)))
noncomputable def pa29 : List AV := [pv26]
noncomputable def pr29 : AV := pv29
theorem pm29 : pr29.fresh = true ∧ CallPure PP 39 pa29 pr29 :=
  callPure_ran (n := 60) (lookN_ok pb19Ok.1 pb19Ok.2 mixed 100000 60).1 (by kernel_rfl) (by kernel_rfl)
noncomputable def pv30 : AV := (G [(I .u16 (7)), (B true), (I .i64 (4)), (B false), (B false), (B true), (B false), (B false), (B false), (I .i64 (4)), (V false 3 [(G [(V false 1 [(S [97])]), (I .u16 (1)), (I .u16 (1))])]), (N), (N), (N)])
noncomputable def pv31 : AV := (T [(V true 1 [(I .u8 (0)), (I .u8 (7)), (I .u8 (161)), (I .u8 (4)), (I .u8 (0)), (I .u8 (1)), (I .u8 (0)), (I .u8 (0)), (I .u8 (0)), (I .u8 (0)), (I .u8 (0)), (I .u8 (0))]), (I .i64 (0))])
noncomputable def pa30 : List AV := [pv30, pv13]
noncomputable def pr30 : AV := pv31
theorem pm30 : pr30.fresh = true ∧ CallPure PP 47 pa30 pr30 :=
  callPure_ran (n := 60) (lookN_ok pb0Ok.1 pb0Ok.2 mixed 100000 60).1 (by kernel_rfl) (by kernel_rfl)
noncomputable def pv32 : AV := (T [(V true 1 [(I .u8 (0)), (I .u8 (7)), (I .u8 (161)), (I .u8 (4)), (I .u8 (0)), (I .u8 (1)), (I .u8 (0)), (I .u8 (0)), (I .u8 (0)), (I .u8 (0)), (I .u8 (0)), (I .u8 (0)), (I .u8 (1)), (I .u8 (97)), (I .u8 (0)), (I .u8 (0)), (I .u8 (1)), (I .u8 (0)), (I .u8 (1))]), (I .i64 (0))])
noncomputable def pb20 : Look := lookOf [(189, true, sameE), (158, true, compareE), (47, false, memoM 60 [(pa30, pr30)])]
theorem pb20Ok : LookOk PP pb20 ∧ LookFr pb20 :=
  lookOf_cons (fun args => same_call (fn := (PP.funcs[189]?).getD default) (by kernel_rfl) (by kernel_rfl) (by kernel_rfl) (by kernel_rfl) (by kernel_rfl) args) (fun args => sameE_framed args) (lookOf_cons (fun args => compare_call (fn := (PP.funcs[158]?).getD default) (by kernel_rfl) (by kernel_rfl) (by kernel_rfl) (by kernel_rfl) (by kernel_rfl) args) (fun args => compareE_framed args) (lookOf_cons (fun args => memo_call (MemoOk.cons pm30.1 pm30.2 (MemoOk.nil)) args) (fun args => memo_framed 60 _ args) (lookOf_nil)))
noncomputable def pa31 : List AV := [pv30, (I .i64 (0))]
noncomputable def pr31 : AV := pv32
theorem pm31 : pr31.fresh = true ∧ CallPure PP 78 pa31 pr31 :=
  callPure_ran (n := 60) (lookN_ok pb20Ok.1 pb20Ok.2 mixed 100000 60).1 (by kernel_rfl) (by kernel_rfl)
noncomputable def pb21 : Look := lookOf [(189, true, sameE), (158, true, compareE), (78, false, memoM 60 [(pa31, pr31)])]
theorem pb21Ok : LookOk PP pb21 ∧ LookFr pb21 :=
  lookOf_cons (fun args => same_call (fn := (PP.funcs[189]?).getD default) (by kernel_rfl) (by kernel_rfl) (by kernel_rfl) (by kernel_rfl) (by kernel_rfl) args) (fun args => sameE_framed args) (lookOf_cons (fun args => compare_call (fn := (PP.funcs[158]?).getD default) (by kernel_rfl) (by kernel_rfl) (by kernel_rfl) (by kernel_rfl) (by kernel_rfl) args) (fun args => compareE_framed args) (lookOf_cons (fun args => memo_call (MemoOk.cons pm31.1 pm31.2 (MemoOk.nil)) args) (fun args => memo_framed 60 _ args) (lookOf_nil)))
noncomputable def pa32 : List AV := [pv30]
noncomputable def pr32 : AV := pv32
theorem pm32 : pr32.fresh = true ∧ CallPure PP 39 pa32 pr32 :=
  callPure_ran (n := 60) (lookN_ok pb21Ok.1 pb21Ok.2 mixed 100000 60).1 (by kernel_rfl) (by kernel_rfl)
noncomputable def pv33 : AV := (G [(I .u16 (7)), (B true), (I .i64 (0)), (B false), (B false), (B true), (B false), (B false), (B false), (I .i64 (0)), (V false 3 [(G [(V false 1 [(S [97])]), (I .u16 (1)), (I .u16 (1))])]), (N), (N), (V false 8 [(G [(N), (I .u16 (41)), (I .u16 (1232)), (I .u32 (16777216)), (N), (N), (N), (N)])])])
noncomputable def pv34 : AV := (G [(I .i64 (1)), (I .i64 (0)), (I .i64 (0)), (I .i64 (1))])
noncomputable def pv35 : AV := (T [(V true 1 [(I .u8 (0)), (I .u8 (7)), (I .u8 (129)), (I .u8 (0)), (I .u8 (0)), (I .u8 (1)), (I .u8 (0)), (I .u8 (0)), (I .u8 (0)), (I .u8 (0)), (I .u8 (0)), (I .u8 (1))]), (I .i64 (0))])
noncomputable def pa33 : List AV := [pv33, pv34]
noncomputable def pr33 : AV := pv35
theorem pm33 : pr33.fresh = true ∧ CallPure PP 47 pa33 pr33 :=
  callPure_ran (n := 60) (lookN_ok pb0Ok.1 pb0Ok.2 mixed 100000 60).1 (by kernel_rfl) (by kernel_rfl)
noncomputable def pv36 : AV := (T [(V true 1 [(I .u8 (0)), (I .u8 (7)), (I .u8 (129)), (I .u8 (0)), (I .u8 (0)), (I .u8 (1)), (I .u8 (0)), (I .u8 (0)), (I .u8 (0)), (I .u8 (0)), (I .u8 (0)), (I .u8 (1)), (I .u8 (1)), (I .u8 (97)), (I .u8 (0)), (I .u8 (0)), (I .u8 (1)), (I .u8 (0)), (I .u8 (1)), (I .u8 (0)), (I .u8 (0)), (I .u8 (41)), (I .u8 (4)), (I .u8 (208)), (I .u8 (1)), (I .u8 (0)), (I .u8 (0)), (I .u8 (0)), (I .u8 (0)), (I .u8 (0))]), (I .i64 (0))])
noncomputable def pb22 : Look := lookOf [(189, true, sameE), (158, true, compareE), (47, false, memoM 60 [(pa33, pr33)])]
theorem pb22Ok : LookOk PP pb22 ∧ LookFr pb22 :=
  lookOf_cons (fun args => same_call (fn := (PP.funcs[189]?).getD default) (by kernel_rfl) (by kernel_rfl) (by kernel_rfl) (by kernel_rfl) (by kernel_rfl) args) (fun args => sameE_framed args) (lookOf_cons (fun args => compare_call (fn := (PP.funcs[158]?).getD default) (by kernel_rfl) (by kernel_rfl) (by kernel_rfl) (by kernel_rfl) (by kernel_rfl) args) (fun args => compareE_framed args) (lookOf_cons (fun args => memo_call (MemoOk.cons pm33.1 pm33.2 (MemoOk.nil)) args) (fun args => memo_framed 60 _ args) (lookOf_nil)))
noncomputable def pa34 : List AV := [pv33, (I .i64 (1))]
noncomputable def pr34 : AV := pv36
theorem pm34 : pr34.fresh = true ∧ CallPure PP 78 pa34 pr34 :=
  callPure_ran (n := 60) (lookN_ok pb22Ok.1 pb22Ok.2 mixed 100000 60).1 (by kernel_rfl) (by kernel_rfl)
noncomputable def pb23 : Look := lookOf [(189, true, sameE), (158, true, compareE), (78, false, memoM 60 [(pa34, pr34)])]
theorem pb23Ok : LookOk PP pb23 ∧ LookFr pb23 :=
  lookOf_cons (fun args => same_call (fn := (PP.funcs[189]?).getD default) (by kernel_rfl) (by kernel_rfl) (by kernel_rfl) (by kernel_rfl) (by kernel_rfl) args) (fun args => sameE_framed args) (lookOf_cons (fun args => compare_call (fn := (PP.funcs[158]?).getD default) (by kernel_rfl) (by kernel_rfl) (by kernel_rfl) (by kernel_rfl) (by kernel_rfl) args) (fun args => compareE_framed args) (lookOf_cons (fun args => memo_call (MemoOk.cons pm34.1 pm34.2 (MemoOk.nil)) args) (fun args => memo_framed 60 _ args) (lookOf_nil)))
noncomputable def pa35 : List AV := [pv33]
noncomputable def pr35 : AV := pv36
theorem pm35 : pr35.fresh = true ∧ CallPure PP 39 pa35 pr35 :=
  callPure_ran (n := 60) (lookN_ok pb23Ok.1 pb23Ok.2 mixed 100000 60).1 (by kernel_rfl) (by kernel_rfl)
noncomputable def pv37 : AV := (G [(I .u16 (0)), (B true), (I .i64 (0)), (B false), (B false), (B false), (B false), (B false), (B false), (I .i64 (1)), (N), (N), (N), (N)])
noncomputable def pv38 : AV := (G [(I .i64 (0)), (I .i64 (0)), (I .i64 (0)), (I .i64 (0))])
noncomputable def pv39 : AV := (T [(V true 1 [(I .u8 (0)), (I .u8 (0)), (I .u8 (128)), (I .u8 (1)), (I .u8 (0)), (I .u8 (0)), (I .u8 (0)), (I .u8 (0)), (I .u8 (0)), (I .u8 (0)), (I .u8 (0)), (I .u8 (0))]), (I .i64 (0))])
noncomputable def pa36 : List AV := [pv37, pv38]
noncomputable def pr36 : AV := pv39
theorem pm36 : pr36.fresh = true ∧ CallPure PP 47 pa36 pr36 :=
  callPure_ran (n := 60) (lookN_ok pb0Ok.1 pb0Ok.2 mixed 100000 60).1 (by kernel_rfl) (by kernel_rfl)
noncomputable def pb24 : Look := lookOf [(189, true, sameE), (158, true, compareE), (47, false, memoM 60 [(pa36, pr36)])]
theorem pb24Ok : LookOk PP pb24 ∧ LookFr pb24 :=
  lookOf_cons (fun args => same_call (fn := (PP.funcs[189]?).getD default) (by kernel_rfl) (by kernel_rfl) (by kernel_rfl) (by kernel_rfl) (by kernel_rfl) args) (fun args => sameE_framed args) (lookOf_cons (fun args => compare_call (fn := (PP.funcs[158]?).getD default) (by kernel_rfl) (by kernel_rfl) (by kernel_rfl) (by kernel_rfl) (by kernel_rfl) args) (fun args => compareE_framed args) (lookOf_cons (fun args => memo_call (MemoOk.cons pm36.1 pm36.2 (MemoOk.nil)) args) (fun args => memo_framed 60 _ args) (lookOf_nil)))
noncomputable def pa37 : List AV := [pv37, (I .i64 (0))]
noncomputable def pr37 : AV := pv39
theorem pm37 : pr37.fresh = true ∧ CallPure PP 78 pa37 pr37 :=
  callPure_ran (n := 60) (lookN_ok pb24Ok.1 pb24Ok.2 mixed 100000 60).1 (by kernel_rfl) (by kernel_rfl)
noncomputable def pb25 : Look := lookOf [(189, true, sameE), (158, true, compareE), (78, false, memoM 60 [(pa37, pr37)])]
theorem pb25Ok : LookOk PP pb25 ∧ LookFr pb25 :=
  lookOf_cons (fun args => same_call (fn := (PP.funcs[189]?).getD default) (by kernel_rfl) (by kernel_rfl) (by kernel_rfl) (by kernel_rfl) (by kernel_rfl) args) (fun args => sameE_framed args) (lookOf_cons (fun args => compare_call (fn := (PP.funcs[158]?).getD default) (by kernel_rfl) (by kernel_rfl) (by kernel_rfl) (by kernel_rfl) (by kernel_rfl) args) (fun args => compareE_framed args) (lookOf_cons (fun args => memo_call (MemoOk.cons pm37.1 pm37.2 (MemoOk.nil)) args) (fun args => memo_framed 60 _ args) (lookOf_nil)))
noncomputable def pa38 : List AV := [pv37]
noncomputable def pr38 : AV := pv39
theorem pm38 : pr38.fresh = true ∧ CallPure PP 39 pa38 pr38 :=
  callPure_ran (n := 60) (lookN_ok pb25Ok.1 pb25Ok.2 mixed 100000 60).1 (by kernel_rfl) (by kernel_rfl)
noncomputable def pv40 : AV := (V false 1 [(I .u8 (1)), (I .u8 (2)), (I .u8 (1)), (I .u8 (0)), (I .u8 (0)), (I .u8 (1)), (I .u8 (0)), (I .u8 (0)), (I .u8 (0)), (I .u8 (0)), (I .u8 (0)), (I .u8 (0)), (I .u8 (7))])
noncomputable def pv41 : AV := (T [(G [(I .u16 (0)), (B false), (I .i64 (0)), (B false), (B false), (B false), (B false), (B false), (B false), (I .i64 (0)), (N), (N), (N), (N)]), (I .i64 (8))])
noncomputable def pa39 : List AV := [pv40]
noncomputable def pr39 : AV := pv41
theorem pm39 : pr39.fresh = true ∧ CallPure PP 46 pa39 pr39 :=
  callPure_rec (look := lookN PP pb0 100000 60) (N := 100000) (n := 60) (lookN_ok pb0Ok.1 pb0Ok.2 mixed 100000 60) mixed (s := (some (.right (.right (.right (.right (.left (.right (.go (.round 0 (.right (.right (.left (.go (.op 3 (.right (.right (.left (.op 3 (.right (.go (.raise 2)))))))))))))))))))))) (by kernel_rfl) (by kernel_rfl)
noncomputable def pv42 : AV := (G [(I .u16 (258)), (B true), (I .i64 (0)), (B false), (B false), (B true), (B false), (B false), (B false), (I .i64 (1)), (N), (N), (N), (N)])
noncomputable def pv43 : AV := (T [(V true 1 [(I .u8 (1)), (I .u8 (2)), (I .u8 (129)), (I .u8 (1)), (I .u8 (0)), (I .u8 (0)), (I .u8 (0)), (I .u8 (0)), (I .u8 (0)), (I .u8 (0)), (I .u8 (0)), (I .u8 (0))]), (I .i64 (0))])
noncomputable def pa40 : List AV := [pv42, pv38]
noncomputable def pr40 : AV := pv43
theorem pm40 : pr40.fresh = true ∧ CallPure PP 47 pa40 pr40 :=
  callPure_ran (n := 60) (lookN_ok pb0Ok.1 pb0Ok.2 mixed 100000 60).1 (by kernel_rfl) (by kernel_rfl)
noncomputable def pa41 : List AV := [pv0, (V false 1 [(S [119, 119, 119]), (S [97])])]
noncomputable def pr41 : AV := (I .i64 (0))
theorem pm41 : pr41.fresh = true ∧ CallPure PP 192 pa41 pr41 :=
  callPure_ran (n := 60) (lookN_ok pb1Ok.1 pb1Ok.2 mixed 100000 60).1 (by kernel_rfl) (by kernel_rfl)
noncomputable def pv44 : AV := (T [(G [(I .u8 (1)), (V true 1 [(S [119, 119, 119]), (S [97])]), (V true 1 [(S [119, 119, 119]), (S [97])])]), (I .i64 (0))])
noncomputable def pb26 : Look := lookOf [(189, true, sameE), (158, true, compareE), (192, false, memoM 60 [(pa41, pr41)])]
theorem pb26Ok : LookOk PP pb26 ∧ LookFr pb26 :=
  lookOf_cons (fun args => same_call (fn := (PP.funcs[189]?).getD default) (by kernel_rfl) (by kernel_rfl) (by kernel_rfl) (by kernel_rfl) (by kernel_rfl) args) (fun args => sameE_framed args) (lookOf_cons (fun args => compare_call (fn := (PP.funcs[158]?).getD default) (by kernel_rfl) (by kernel_rfl) (by kernel_rfl) (by kernel_rfl) (by kernel_rfl) args) (fun args => compareE_framed args) (lookOf_cons (fun args => memo_call (MemoOk.cons pm41.1 pm41.2 (MemoOk.nil)) args) (fun args => memo_framed 60 _ args) (lookOf_nil)))
noncomputable def pa42 : List AV := [pv0, (V false 1 [(S [119, 119, 119]), (S [97])])]
noncomputable def pr42 : AV := pv44
theorem pm42 : pr42.fresh = true ∧ CallPure PP 165 pa42 pr42 :=
  callPure_ran (n := 60) (lookN_ok pb26Ok.1 pb26Ok.2 mixed 100000 60).1 (by kernel_rfl) (by kernel_rfl)
noncomputable def pb27 : Look := lookOf [(189, true, sameE), (158, true, compareE), (165, false, memoM 60 [(pa42, pr42)])]
theorem pb27Ok : LookOk PP pb27 ∧ LookFr pb27 :=
  lookOf_cons (fun args => same_call (fn := (PP.funcs[189]?).getD default) (by kernel_rfl) (by kernel_rfl) (by kernel_rfl) (by kernel_rfl) (by kernel_rfl) args) (fun args => sameE_framed args) (lookOf_cons (fun args => compare_call (fn := (PP.funcs[158]?).getD default) (by kernel_rfl) (by kernel_rfl) (by kernel_rfl) (by kernel_rfl) (by kernel_rfl) args) (fun args => compareE_framed args) (lookOf_cons (fun args => memo_call (MemoOk.cons pm42.1 pm42.2 (MemoOk.nil)) args) (fun args => memo_framed 60 _ args) (lookOf_nil)))
noncomputable def pa43 : List AV := [pv0, (V false 1 [(S [119, 119, 119]), (S [97])]), (I .u16 (1))]
noncomputable def pr43 : AV := pv44
theorem pm43 : pr43.fresh = true ∧ CallPure PP 127 pa43 pr43 :=
  callPure_ran (n := 60) (lookN_ok pb27Ok.1 pb27Ok.2 mixed 100000 60).1 (by kernel_rfl) (by kernel_rfl)
noncomputable def pa44 : List AV := [pv0, (V false 1 [(S [110, 115]), (S [97])])]
noncomputable def pr44 : AV := (I .i64 (0))
theorem pm44 : pr44.fresh = true ∧ CallPure PP 192 pa44 pr44 :=
  callPure_ran (n := 60) (lookN_ok pb1Ok.1 pb1Ok.2 mixed 100000 60).1 (by kernel_rfl) (by kernel_rfl)
noncomputable def pv45 : AV := (T [(G [(I .u8 (1)), (V true 1 [(S [110, 115]), (S [97])]), (V true 1 [(S [110, 115]), (S [97])])]), (I .i64 (0))])
noncomputable def pb28 : Look := lookOf [(189, true, sameE), (158, true, compareE), (192, false, memoM 60 [(pa44, pr44)])]
theorem pb28Ok : LookOk PP pb28 ∧ LookFr pb28 :=
  lookOf_cons (fun args => same_call (fn := (PP.funcs[189]?).getD default) (by kernel_rfl) (by kernel_rfl) (by kernel_rfl) (by kernel_rfl) (by kernel_rfl) args) (fun args => sameE_framed args) (lookOf_cons (fun args => compare_call (fn := (PP.funcs[158]?).getD default) (by kernel_rfl) (by kernel_rfl) (by kernel_rfl) (by kernel_rfl) (by kernel_rfl) args) (fun args => compareE_framed args) (lookOf_cons (fun args => memo_call (MemoOk.cons pm44.1 pm44.2 (MemoOk.nil)) args) (fun args => memo_framed 60 _ args) (lookOf_nil)))
noncomputable def pa45 : List AV := [pv0, (V false 1 [(S [110, 115]), (S [97])])]
noncomputable def pr45 : AV := pv45
theorem pm45 : pr45.fresh = true ∧ CallPure PP 165 pa45 pr45 :=
  callPure_ran (n := 60) (lookN_ok pb28Ok.1 pb28Ok.2 mixed 100000 60).1 (by kernel_rfl) (by kernel_rfl)
noncomputable def pv46 : AV := (T [(G [(I .i64 (0)), (B true), (V true 5 [(G [(V true 1 [(S [119, 119, 119]), (S [97])]), (I .u16 (5)), (I .u16 (1)), (I .u32 (60)), (V true 4 [(G [(V true 1 [(V true 1 [(S [110, 115]), (S [97])])]), (N), (N), (N)])])]), (G [(V true 1 [(S [110, 115]), (S [97])]), (I .u16 (1)), (I .u16 (1)), (I .u32 (60)), (V true 4 [(G [(N), (N), (N), (V true 1 [(I .u8 (10)), (I .u8 (0)), (I .u8 (0)), (I .u8 (1))])])])])]), (N), (N)]), (I .i64 (0))])
noncomputable def pb29 : Look := lookOf [(189, true, sameE), (158, true, compareE), (127, false, memoM 60 [(pa43, pr43)]), (165, false, memoM 60 [(pa42, pr42), (pa45, pr45)])]
theorem pb29Ok : LookOk PP pb29 ∧ LookFr pb29 :=
  lookOf_cons (fun args => same_call (fn := (PP.funcs[189]?).getD default) (by kernel_rfl) (by kernel_rfl) (by kernel_rfl) (by kernel_rfl) (by kernel_rfl) args) (fun args => sameE_framed args) (lookOf_cons (fun args => compare_call (fn := (PP.funcs[158]?).getD default) (by kernel_rfl) (by kernel_rfl) (by kernel_rfl) (by kernel_rfl) (by kernel_rfl) args) (fun args => compareE_framed args) (lookOf_cons (fun args => memo_call (MemoOk.cons pm43.1 pm43.2 (MemoOk.nil)) args) (fun args => memo_framed 60 _ args) (lookOf_cons (fun args => memo_call (MemoOk.cons pm42.1 pm42.2 (MemoOk.cons pm45.1 pm45.2 (MemoOk.nil))) args) (fun args => memo_framed 60 _ args) (lookOf_nil))))
noncomputable def pa46 : List AV := [pv0, (V false 1 [(S [119, 119, 119]), (S [97])]), (I .u16 (1))]
noncomputable def pr46 : AV := pv46
theorem pm46 : pr46.fresh = true ∧ CallPure PP 76 pa46 pr46 :=
  callPure_ran (n := 60) (lookN_ok pb29Ok.1 pb29Ok.2 mixed 100000 60).1 (by kernel_rfl) (by kernel_rfl)
noncomputable def pv47 : AV := (G [(I .u16 (7)), (B true), (I .i64 (0)), (B true), (B false), (B true), (B false), (B false), (B false), (I .i64 (0)), (V false 3 [(G [(V false 1 [(S [119, 119, 119]), (S [97])]), (I .u16 (1)), (I .u16 (1))])]), (V false 8 [(G [(V false 1 [(S [119, 119, 119]), (S [97])]), (I .u16 (5)), (I .u16 (1)), (I .u32 (60)), (V false 1 [(V false 1 [(S [110, 115]), (S [97])])]), (N), (N), (N)]), (G [(V false 1 [(S [110, 115]), (S [97])]), (I .u16 (1)), (I .u16 (1)), (I .u32 (60)), (N), (N), (N), (V false 1 [(I .u8 (10)), (I .u8 (0)), (I .u8 (0)), (I .u8 (1))])])]), (N), (N)])
noncomputable def pv48 : AV := (G [(I .i64 (1)), (I .i64 (2)), (I .i64 (0)), (I .i64 (0))])
noncomputable def pv49 : AV := (T [(V true 1 [(I .u8 (0)), (I .u8 (7)), (I .u8 (133)), (I .u8 (0)), (I .u8 (0)), (I .u8 (1)), (I .u8 (0)), (I .u8 (2)), (I .u8 (0)), (I .u8 (0)), (I .u8 (0)), (I .u8 (0))]), (I .i64 (0))])
noncomputable def pa47 : List AV := [pv47, pv48]
noncomputable def pr47 : AV := pv49
theorem pm47 : pr47.fresh = true ∧ CallPure PP 47 pa47 pr47 :=
  callPure_ran (n := 60) (lookN_ok pb0Ok.1 pb0Ok.2 mixed 100000 60).1 (by kernel_rfl) (by kernel_rfl)
noncomputable def pv50 : AV := (T [(V true 1 [(I .u8 (0)), (I .u8 (7)), (I .u8 (133)), (I .u8 (0)), (I .u8 (0)), (I .u8 (1)), (I .u8 (0)), (I .u8 (2)), (I .u8 (0)), (I .u8 (0)), (I .u8 (0)), (I .u8 (0)), (I .u8 (3)), (I .u8 (119)), (I .u8 (119)), (I .u8 (119)), (I .u8 (1)), (I .u8 (97)), (I .u8 (0)), (I .u8 (0)), (I .u8 (1)), (I .u8 (0)), (I .u8 (1)), (I .u8 (192)), (I .u8 (12)), (I .u8 (0)), (I .u8 (5)), (I .u8 (0)), (I .u8 (1)), (I .u8 (0)), (I .u8 (0)), (I .u8 (0)), (I .u8 (60)), (I .u8 (0)), (I .u8 (5)), (I .u8 (2)), (I .u8 (110)), (I .u8 (115)), (I .u8 (192)), (I .u8 (16)), (I .u8 (192)), (I .u8 (35)), (I .u8 (0)), (I .u8 (1)), (I .u8 (0)), (I .u8 (1)), (I .u8 (0)), (I .u8 (0)), (I .u8 (0)), (I .u8 (60)), (I .u8 (0)), (I .u8 (4)), (I .u8 (10)), (I .u8 (0)), (I .u8 (0)), (I .u8 (1))]), (I .i64 (0))])
noncomputable def pb30 : Look := lookOf [(189, true, sameE), (158, true, compareE), (47, false, memoM 60 [(pa47, pr47)])]
theorem pb30Ok : LookOk PP pb30 ∧ LookFr pb30 :=
  lookOf_cons (fun args => same_call (fn := (PP.funcs[189]?).getD default) (by kernel_rfl) (by kernel_rfl) (by kernel_rfl) (by kernel_rfl) (by kernel_rfl) args) (fun args => sameE_framed args) (lookOf_cons (fun args => compare_call (fn := (PP.funcs[158]?).getD default) (by kernel_rfl) (by kernel_rfl) (by kernel_rfl) (by kernel_rfl) (by kernel_rfl) args) (fun args => compareE_framed args) (lookOf_cons (fun args => memo_call (MemoOk.cons pm47.1 pm47.2 (MemoOk.nil)) args) (fun args => memo_framed 60 _ args) (lookOf_nil)))
noncomputable def pa48 : List AV := [pv47, (I .i64 (2))]
noncomputable def pr48 : AV := pv50
theorem pm48 : pr48.fresh = true ∧ CallPure PP 78 pa48 pr48 :=
  callPure_ran (n := 60) (lookN_ok pb30Ok.1 pb30Ok.2 mixed 100000 60).1 (by kernel_rfl) (by kernel_rfl)
noncomputable def pb31 : Look := lookOf [(189, true, sameE), (158, true, compareE), (78, false, memoM 60 [(pa48, pr48)])]
theorem pb31Ok : LookOk PP pb31 ∧ LookFr pb31 :=
  lookOf_cons (fun args => same_call (fn := (PP.funcs[189]?).getD default) (by kernel_rfl) (by kernel_rfl) (by kernel_rfl) (by kernel_rfl) (by kernel_rfl) args) (fun args => sameE_framed args) (lookOf_cons (fun args => compare_call (fn := (PP.funcs[158]?).getD default) (by kernel_rfl) (by kernel_rfl) (by kernel_rfl) (by kernel_rfl) (by kernel_rfl) args) (fun args => compareE_framed args) (lookOf_cons (fun args => memo_call (MemoOk.cons pm48.1 pm48.2 (MemoOk.nil)) args) (fun args => memo_framed 60 _ args) (lookOf_nil)))
noncomputable def pa49 : List AV := [pv47]
noncomputable def pr49 : AV := pv50
theorem pm49 : pr49.fresh = true ∧ CallPure PP 39 pa49 pr49 :=
  callPure_ran (n := 60) (lookN_ok pb31Ok.1 pb31Ok.2 mixed 100000 60).1 (by kernel_rfl) (by kernel_rfl)
noncomputable def pb32 : Look := lookOf [(189, true, sameE), (158, true, compareE), (18, false, memoM 60 [(pa1, pr1)]), (19, false, memoM 60 [(pa4, pr4)]), (76, false, memoM 60 [(pa46, pr46)]), (39, false, memoM 60 [(pa49, pr49)])]
theorem pb32Ok : LookOk PP pb32 ∧ LookFr pb32 :=
  lookOf_cons (fun args => same_call (fn := (PP.funcs[189]?).getD default) (by kernel_rfl) (by kernel_rfl) (by kernel_rfl) (by kernel_rfl) (by kernel_rfl) args) (fun args => sameE_framed args) (lookOf_cons (fun args => compare_call (fn := (PP.funcs[158]?).getD default) (by kernel_rfl) (by kernel_rfl) (by kernel_rfl) (by kernel_rfl) (by kernel_rfl) args) (fun args => compareE_framed args) (lookOf_cons (fun args => memo_call (MemoOk.cons pm1.1 pm1.2 (MemoOk.nil)) args) (fun args => memo_framed 60 _ args) (lookOf_cons (fun args => memo_call (MemoOk.cons pm4.1 pm4.2 (MemoOk.nil)) args) (fun args => memo_framed 60 _ args) (lookOf_cons (fun args => memo_call (MemoOk.cons pm46.1 pm46.2 (MemoOk.nil)) args) (fun args => memo_framed 60 _ args) (lookOf_cons (fun args => memo_call (MemoOk.cons pm49.1 pm49.2 (MemoOk.nil)) args) (fun args => memo_framed 60 _ args) (lookOf_nil))))))
noncomputable def pa50 : List AV := []
noncomputable def pr50 : AV := (B true)
theorem pm50 : pr50.fresh = true ∧ CallPure PP 12 pa50 pr50 :=
  callPure_ran (n := 60) (lookN_ok pb32Ok.1 pb32Ok.2 mixed 100000 60).1 (by kernel_rfl) (by kernel_rfl)
noncomputable def base : Look := lookOf [(189, true, sameE), (158, true, compareE), (18, false, memoM 60 [(pa1, pr1)]), (19, false, memoM 60 [(pa4, pr4)]), (6, false, memoM 60 [(pa0, pr0)]), (76, false, memoM 60 [(pa8, pr8)]), (39, false, memoM 60 [(pa11, pr11), (pa14, pr14), (pa17, pr17), (pa20, pr20), (pa23, pr23), (pa26, pr26), (pa29, pr29), (pa32, pr32), (pa35, pr35), (pa38, pr38)]), (46, false, memoM 60 [(pa39, pr39)]), (47, false, memoM 60 [(pa40, pr40)]), (12, false, memoM 60 [(pa50, pr50)])]
theorem baseOk : LookOk PP base ∧ LookFr base :=
  lookOf_cons (fun args => same_call (fn := (PP.funcs[189]?).getD default) (by kernel_rfl) (by kernel_rfl) (by kernel_rfl) (by kernel_rfl) (by kernel_rfl) args) (fun args => sameE_framed args) (lookOf_cons (fun args => compare_call (fn := (PP.funcs[158]?).getD default) (by kernel_rfl) (by kernel_rfl) (by kernel_rfl) (by kernel_rfl) (by kernel_rfl) args) (fun args => compareE_framed args) (lookOf_cons (fun args => memo_call (MemoOk.cons pm1.1 pm1.2 (MemoOk.nil)) args) (fun args => memo_framed 60 _ args) (lookOf_cons (fun args => memo_call (MemoOk.cons pm4.1 pm4.2 (MemoOk.nil)) args) (fun args => memo_framed 60 _ args) (lookOf_cons (fun args => memo_call (MemoOk.cons pm0.1 pm0.2 (MemoOk.nil)) args) (fun args => memo_framed 60 _ args) (lookOf_cons (fun args => memo_call (MemoOk.cons pm8.1 pm8.2 (MemoOk.nil)) args) (fun args => memo_framed 60 _ args) (lookOf_cons (fun args => memo_call (MemoOk.cons pm11.1 pm11.2 (MemoOk.cons pm14.1 pm14.2 (MemoOk.cons pm17.1 pm17.2 (MemoOk.cons pm20.1 pm20.2 (MemoOk.cons pm23.1 pm23.2 (MemoOk.cons pm26.1 pm26.2 (MemoOk.cons pm29.1 pm29.2 (MemoOk.cons pm32.1 pm32.2 (MemoOk.cons pm35.1 pm35.2 (MemoOk.cons pm38.1 pm38.2 (MemoOk.nil))))))))))) args) (fun args => memo_framed 60 _ args) (lookOf_cons (fun args => memo_call (MemoOk.cons pm39.1 pm39.2 (MemoOk.nil)) args) (fun args => memo_framed 60 _ args) (lookOf_cons (fun args => memo_call (MemoOk.cons pm40.1 pm40.2 (MemoOk.nil)) args) (fun args => memo_framed 60 _ args) (lookOf_cons (fun args => memo_call (MemoOk.cons pm50.1 pm50.2 (MemoOk.nil)) args) (fun args => memo_framed 60 _ args) (lookOf_nil))))))))))
noncomputable def look : Look := lookN PP base 100000 60
theorem lookOk : LookOk PP look := (lookN_ok baseOk.1 baseOk.2 mixed 100000 60).1
noncomputable def okRun (r : Option (AV × St)) : Bool := match r with | some p => (match p.1 with | .sc v => (match v with | .bool b => b | _ => false) | _ => false) | none => false
noncomputable def unkA : AC Unit := aU (Tryz.f3.params.toList.map (shapeU PP))
noncomputable def runOf (f : Nat) : Option (AV × St) := match look f with | some p => p.2 (unkA.E ()) (stK []) | none => none
set_option maxRecDepth 1000000
theorem runs : okRun (runOf 3) = true := by kernel_rfl
theorem okRun_some {r : Option (AV × St)} (h : okRun r = true) : ∃ st, r = some (.sc (.bool true), st) := by
  unfold okRun at h
  split at h
  · rename_i p
    obtain ⟨a, st⟩ := p
    dsimp only at h
    split at h
    · split at h
      · subst h; exact ⟨st, rfl⟩
      · cases h
    · cases h
  · cases h
theorem law_pure : CallPure PP 3 (unkA.E ()) (.sc (.bool true)) := by
  obtain ⟨st, h⟩ := okRun_some runs
  unfold runOf at h
  cases hp : look 3 with
  | none => rw [hp] at h; cases h
  | some p =>
    rw [hp] at h
    exact callPure_of_run lookOk hp (by kernel_rfl) (r1 codBool) true true h rfl

theorem own : ownKnob PP.godebug = none := by kernel_rfl
theorem undBool : PP.underlying 4 = some .bool := by kernel_rfl
theorem lifted (os : Os) (started : os.Started) (H : Type) (enc : TypeId × Value → H) :
    ReturnsInHanded {} Tryz.checked os 3 .any (Rows.serveKnownSpec.pre6 enc Tryz.prog Tryz.f3 Rows.serveKnownRow.domain false) (Rows.serveKnownSpec.post enc Tryz.prog Tryz.f3 false true false false) := by
  refine returnsInHanded_of_change (C := Tryz.checked) own started (by kernel_rfl) Tryz.func3
    (ChangeSpec.witness6 (enc := enc) (C := Tryz.checked) false ⟨#[], Tryz.f3.params.map fun t => ((PP.info? t).bind (·.zero)).getD undef, []⟩ 8 (by kernel_rfl) (by kernel_rfl) (by kernel_rfl) (by kernel_rfl)) ?_
  intro W base args ds gs before hval hW _ _
  exact law_post (by kernel_rfl) (by kernel_rfl) (slicesFull_at (by kernel_rfl)) (tb := 4) (by kernel_rfl) rfl (by kernel_rfl) undBool (typesIn_at (by kernel_rfl))
    (fun H ds hl => by match ds, (show ds.length = 0 from hl) with | [], _ => rfl) (A := unkA) (rdA_unk _) (N := none) (fun _ _ => law_pure) enc W base args ds gs before hval hW (fun n hn => by cases hn)
theorem over : Rows.serveKnownRow.holds Tryz.pinned (OpenSpec.ofChange Rows.serveKnownSpec) :=
  OpenClaim.holds_of_wide 3 Tryz.f3 rfl rfl rfl rfl rfl rfl rfl ⟨rfl, rfl, rfl, rfl, rfl⟩ rfl rfl rfl rfl rfl (by kernel_rfl) Tryz.func3 (by kernel_rfl)
    (of_decide_eq_true (by kernel_rfl)) (by unfold Func.isWrapper; first | (rw [if_pos (by decide +kernel)]; kernel_rfl) | (rw [if_neg (by decide +kernel)]; exact ⟨rfl, rfl⟩))
    (fun os started H enc _ => lifted os started H enc)
theorem proved : Rows.ServeKnownSaid := over

end Go.Proofs.YtnkjblopaagkoaaGreat.serveKnown
