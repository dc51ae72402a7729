/- Proved: the law AnswerKnown returns true, whatever it is given: its run on abstract values, of which the arguments are unknown, is reckoned by the kernel. No conditions. -/
import Derived.Test.YtkjdgfmphjmhmacGreatWxU
import Derived.Test.YtkjdgfmphjmhmacGreatWxV
import Derived.Test.YtkjdgfmphjmhmacGreatRows
import Derived.JoinedCond
import Derived.KernelRfl
set_option linter.unusedVariables false
namespace Go.Proofs.YtkjdgfmphjmhmacGreat.answerKnown
open Go.Vm Go.Vm.Lit Go.ChangeShapes Go.WideShapes Go.ChangeAt

noncomputable abbrev PP := Tryz.prog
theorem mixed : PP.follows .mixedOrders = true := by kernel_rfl
set_option maxRecDepth 1000000
noncomputable def pv0 : AV := (V false 8 [(G [(V false 1 [(S [97])]), (I .u16 (6)), (I .u16 (1)), (I .u32 (60)), (V false 1 [(V false 1 [(S [110, 115]), (S [97])]), (V false 1 [(S [97])])]), (V false 1 [(I .u32 (1)), (I .u32 (2)), (I .u32 (3)), (I .u32 (4)), (I .u32 (30))]), (N), (N)]), (G [(V false 1 [(S [97])]), (I .u16 (2)), (I .u16 (1)), (I .u32 (60)), (V false 1 [(V false 1 [(S [110, 115]), (S [97])])]), (N), (N), (N)]), (G [(V false 1 [(S [110, 115]), (S [97])]), (I .u16 (1)), (I .u16 (1)), (I .u32 (60)), (N), (N), (N), (V false 1 [(I .u8 (10)), (I .u8 (0)), (I .u8 (0)), (I .u8 (1))])]), (G [(V false 1 [(S [119, 119, 119]), (S [97])]), (I .u16 (5)), (I .u16 (1)), (I .u32 (60)), (V false 1 [(V false 1 [(S [110, 115]), (S [97])])]), (N), (N), (N)]), (G [(V false 1 [(S [98]), (S [97])]), (I .u16 (2)), (I .u16 (1)), (I .u32 (60)), (V false 1 [(V false 1 [(S [110, 115]), (S [98]), (S [97])])]), (N), (N), (N)]), (G [(V false 1 [(S [110, 115]), (S [98]), (S [97])]), (I .u16 (1)), (I .u16 (1)), (I .u32 (60)), (N), (N), (N), (V false 1 [(I .u8 (10)), (I .u8 (0)), (I .u8 (0)), (I .u8 (2))])]), (G [(V false 1 [(S [42]), (S [119]), (S [97])]), (I .u16 (1)), (I .u16 (1)), (I .u32 (60)), (N), (N), (N), (V false 1 [(I .u8 (10)), (I .u8 (0)), (I .u8 (0)), (I .u8 (3))])])])
noncomputable def pv1 : AV := (T [(V true 5 [(G [(V true 1 [(S [97])]), (I .u16 (6)), (I .u16 (1)), (I .u32 (60)), (V true 4 [(G [(V true 1 [(V true 1 [(S [110, 115]), (S [97])]), (V true 1 [(S [97])])]), (V true 1 [(I .u32 (1)), (I .u32 (2)), (I .u32 (3)), (I .u32 (4)), (I .u32 (30))]), (N), (N)])])]), (G [(V true 1 [(S [97])]), (I .u16 (2)), (I .u16 (1)), (I .u32 (60)), (V true 4 [(G [(V true 1 [(V true 1 [(S [110, 115]), (S [97])])]), (N), (N), (N)])])]), (G [(V true 1 [(S [110, 115]), (S [97])]), (I .u16 (1)), (I .u16 (1)), (I .u32 (60)), (V true 4 [(G [(N), (N), (N), (V true 1 [(I .u8 (10)), (I .u8 (0)), (I .u8 (0)), (I .u8 (1))])])])]), (G [(V true 1 [(S [119, 119, 119]), (S [97])]), (I .u16 (5)), (I .u16 (1)), (I .u32 (60)), (V true 4 [(G [(V true 1 [(V true 1 [(S [110, 115]), (S [97])])]), (N), (N), (N)])])]), (G [(V true 1 [(S [98]), (S [97])]), (I .u16 (2)), (I .u16 (1)), (I .u32 (60)), (V true 4 [(G [(V true 1 [(V true 1 [(S [110, 115]), (S [98]), (S [97])])]), (N), (N), (N)])])]), (G [(V true 1 [(S [110, 115]), (S [98]), (S [97])]), (I .u16 (1)), (I .u16 (1)), (I .u32 (60)), (V true 4 [(G [(N), (N), (N), (V true 1 [(I .u8 (10)), (I .u8 (0)), (I .u8 (0)), (I .u8 (2))])])])]), (G [(V true 1 [(S [42]), (S [119]), (S [97])]), (I .u16 (1)), (I .u16 (1)), (I .u32 (60)), (V true 4 [(G [(N), (N), (N), (V true 1 [(I .u8 (10)), (I .u8 (0)), (I .u8 (0)), (I .u8 (3))])])])])]), (I .i64 (0))])
noncomputable def pb0 : Look := lookOf [(114, true, sameE), (120, true, compareE)]
theorem pb0Ok : LookOk PP pb0 ∧ LookFr pb0 :=
  lookOf_cons (fun args => same_call (fn := (PP.funcs[114]?).getD default) (by kernel_rfl) (by kernel_rfl) (by kernel_rfl) (by kernel_rfl) (by kernel_rfl) args) (fun args => sameE_framed args) (lookOf_cons (fun args => compare_call (fn := (PP.funcs[120]?).getD default) (by kernel_rfl) (by kernel_rfl) (by kernel_rfl) (by kernel_rfl) (by kernel_rfl) args) (fun args => compareE_framed args) (lookOf_nil))
noncomputable def pa0 : List AV := [pv0]
noncomputable def pr0 : AV := pv1
theorem pm0 : pr0.fresh = true ∧ CallPure PP 18 pa0 pr0 :=
  callPure_ran (n := 60) (lookN_ok pb0Ok.1 pb0Ok.2 mixed 100000 60).1 (by kernel_rfl) (by kernel_rfl)
noncomputable def pv2 : AV := (V false 5 [(G [(V false 1 [(S [97])]), (I .u16 (6)), (I .u16 (1)), (I .u32 (60)), (V false 4 [(G [(V false 1 [(V false 1 [(S [110, 115]), (S [97])]), (V false 1 [(S [97])])]), (V false 1 [(I .u32 (1)), (I .u32 (2)), (I .u32 (3)), (I .u32 (4)), (I .u32 (30))]), (N), (N)])])]), (G [(V false 1 [(S [97])]), (I .u16 (2)), (I .u16 (1)), (I .u32 (60)), (V false 4 [(G [(V false 1 [(V false 1 [(S [110, 115]), (S [97])])]), (N), (N), (N)])])]), (G [(V false 1 [(S [110, 115]), (S [97])]), (I .u16 (1)), (I .u16 (1)), (I .u32 (60)), (V false 4 [(G [(N), (N), (N), (V false 1 [(I .u8 (10)), (I .u8 (0)), (I .u8 (0)), (I .u8 (1))])])])]), (G [(V false 1 [(S [119, 119, 119]), (S [97])]), (I .u16 (5)), (I .u16 (1)), (I .u32 (60)), (V false 4 [(G [(V false 1 [(V false 1 [(S [110, 115]), (S [97])])]), (N), (N), (N)])])]), (G [(V false 1 [(S [98]), (S [97])]), (I .u16 (2)), (I .u16 (1)), (I .u32 (60)), (V false 4 [(G [(V false 1 [(V false 1 [(S [110, 115]), (S [98]), (S [97])])]), (N), (N), (N)])])]), (G [(V false 1 [(S [110, 115]), (S [98]), (S [97])]), (I .u16 (1)), (I .u16 (1)), (I .u32 (60)), (V false 4 [(G [(N), (N), (N), (V false 1 [(I .u8 (10)), (I .u8 (0)), (I .u8 (0)), (I .u8 (2))])])])]), (G [(V false 1 [(S [42]), (S [119]), (S [97])]), (I .u16 (1)), (I .u16 (1)), (I .u32 (60)), (V false 4 [(G [(N), (N), (N), (V false 1 [(I .u8 (10)), (I .u8 (0)), (I .u8 (0)), (I .u8 (3))])])])])])
noncomputable def pv3 : AV := (V true 5 [(G [(V true 1 [(S [97])]), (I .u16 (2)), (I .u16 (1)), (I .u32 (60)), (V true 4 [(G [(V true 1 [(V true 1 [(S [110, 115]), (S [97])])]), (N), (N), (N)])])]), (G [(V true 1 [(S [97])]), (I .u16 (6)), (I .u16 (1)), (I .u32 (60)), (V true 4 [(G [(V true 1 [(V true 1 [(S [110, 115]), (S [97])]), (V true 1 [(S [97])])]), (V true 1 [(I .u32 (1)), (I .u32 (2)), (I .u32 (3)), (I .u32 (4)), (I .u32 (30))]), (N), (N)])])]), (G [(V true 1 [(S [98]), (S [97])]), (I .u16 (2)), (I .u16 (1)), (I .u32 (60)), (V true 4 [(G [(V true 1 [(V true 1 [(S [110, 115]), (S [98]), (S [97])])]), (N), (N), (N)])])]), (G [(V true 1 [(S [110, 115]), (S [98]), (S [97])]), (I .u16 (1)), (I .u16 (1)), (I .u32 (60)), (V true 4 [(G [(N), (N), (N), (V true 1 [(I .u8 (10)), (I .u8 (0)), (I .u8 (0)), (I .u8 (2))])])])]), (G [(V true 1 [(S [110, 115]), (S [97])]), (I .u16 (1)), (I .u16 (1)), (I .u32 (60)), (V true 4 [(G [(N), (N), (N), (V true 1 [(I .u8 (10)), (I .u8 (0)), (I .u8 (0)), (I .u8 (1))])])])]), (G [(V true 1 [(S [42]), (S [119]), (S [97])]), (I .u16 (1)), (I .u16 (1)), (I .u32 (60)), (V true 4 [(G [(N), (N), (N), (V true 1 [(I .u8 (10)), (I .u8 (0)), (I .u8 (0)), (I .u8 (3))])])])]), (G [(V true 1 [(S [119, 119, 119]), (S [97])]), (I .u16 (5)), (I .u16 (1)), (I .u32 (60)), (V true 4 [(G [(V true 1 [(V true 1 [(S [110, 115]), (S [97])])]), (N), (N), (N)])])])])
noncomputable def pa1 : List AV := [pv2]
noncomputable def pr1 : AV := pv3
theorem pm1 : pr1.fresh = true ∧ CallPure PP 36 pa1 pr1 :=
  callPure_ran (n := 60) (lookN_ok pb0Ok.1 pb0Ok.2 mixed 100000 60).1 (by kernel_rfl) (by kernel_rfl)
noncomputable def pv4 : AV := (G [(V false 1 [(S [97])]), (V false 5 [(G [(V false 1 [(S [97])]), (I .u16 (2)), (I .u16 (1)), (I .u32 (60)), (V false 4 [(G [(V false 1 [(V false 1 [(S [110, 115]), (S [97])])]), (N), (N), (N)])])]), (G [(V false 1 [(S [97])]), (I .u16 (6)), (I .u16 (1)), (I .u32 (60)), (V false 4 [(G [(V false 1 [(V false 1 [(S [110, 115]), (S [97])]), (V false 1 [(S [97])])]), (V false 1 [(I .u32 (1)), (I .u32 (2)), (I .u32 (3)), (I .u32 (4)), (I .u32 (30))]), (N), (N)])])]), (G [(V false 1 [(S [98]), (S [97])]), (I .u16 (2)), (I .u16 (1)), (I .u32 (60)), (V false 4 [(G [(V false 1 [(V false 1 [(S [110, 115]), (S [98]), (S [97])])]), (N), (N), (N)])])]), (G [(V false 1 [(S [110, 115]), (S [98]), (S [97])]), (I .u16 (1)), (I .u16 (1)), (I .u32 (60)), (V false 4 [(G [(N), (N), (N), (V false 1 [(I .u8 (10)), (I .u8 (0)), (I .u8 (0)), (I .u8 (2))])])])]), (G [(V false 1 [(S [110, 115]), (S [97])]), (I .u16 (1)), (I .u16 (1)), (I .u32 (60)), (V false 4 [(G [(N), (N), (N), (V false 1 [(I .u8 (10)), (I .u8 (0)), (I .u8 (0)), (I .u8 (1))])])])]), (G [(V false 1 [(S [42]), (S [119]), (S [97])]), (I .u16 (1)), (I .u16 (1)), (I .u32 (60)), (V false 4 [(G [(N), (N), (N), (V false 1 [(I .u8 (10)), (I .u8 (0)), (I .u8 (0)), (I .u8 (3))])])])]), (G [(V false 1 [(S [119, 119, 119]), (S [97])]), (I .u16 (5)), (I .u16 (1)), (I .u32 (60)), (V false 4 [(G [(V false 1 [(V false 1 [(S [110, 115]), (S [97])])]), (N), (N), (N)])])])])])
noncomputable def pa2 : List AV := [pv4]
noncomputable def pr2 : AV := (I .i64 (0))
theorem pm2 : pr2.fresh = true ∧ CallPure PP 38 pa2 pr2 :=
  callPure_ran (n := 60) (lookN_ok pb0Ok.1 pb0Ok.2 mixed 100000 60).1 (by kernel_rfl) (by kernel_rfl)
noncomputable def pv5 : AV := (T [(G [(V true 1 [(S [97])]), (V true 5 [(G [(V true 1 [(S [97])]), (I .u16 (2)), (I .u16 (1)), (I .u32 (60)), (V true 4 [(G [(V true 1 [(V true 1 [(S [110, 115]), (S [97])])]), (N), (N), (N)])])]), (G [(V true 1 [(S [97])]), (I .u16 (6)), (I .u16 (1)), (I .u32 (60)), (V true 4 [(G [(V true 1 [(V true 1 [(S [110, 115]), (S [97])]), (V true 1 [(S [97])])]), (V true 1 [(I .u32 (1)), (I .u32 (2)), (I .u32 (3)), (I .u32 (4)), (I .u32 (30))]), (N), (N)])])]), (G [(V true 1 [(S [98]), (S [97])]), (I .u16 (2)), (I .u16 (1)), (I .u32 (60)), (V true 4 [(G [(V true 1 [(V true 1 [(S [110, 115]), (S [98]), (S [97])])]), (N), (N), (N)])])]), (G [(V true 1 [(S [110, 115]), (S [98]), (S [97])]), (I .u16 (1)), (I .u16 (1)), (I .u32 (60)), (V true 4 [(G [(N), (N), (N), (V true 1 [(I .u8 (10)), (I .u8 (0)), (I .u8 (0)), (I .u8 (2))])])])]), (G [(V true 1 [(S [110, 115]), (S [97])]), (I .u16 (1)), (I .u16 (1)), (I .u32 (60)), (V true 4 [(G [(N), (N), (N), (V true 1 [(I .u8 (10)), (I .u8 (0)), (I .u8 (0)), (I .u8 (1))])])])]), (G [(V true 1 [(S [42]), (S [119]), (S [97])]), (I .u16 (1)), (I .u16 (1)), (I .u32 (60)), (V true 4 [(G [(N), (N), (N), (V true 1 [(I .u8 (10)), (I .u8 (0)), (I .u8 (0)), (I .u8 (3))])])])]), (G [(V true 1 [(S [119, 119, 119]), (S [97])]), (I .u16 (5)), (I .u16 (1)), (I .u32 (60)), (V true 4 [(G [(V true 1 [(V true 1 [(S [110, 115]), (S [97])])]), (N), (N), (N)])])])])]), (I .i64 (0))])
noncomputable def pb1 : Look := lookOf [(114, true, sameE), (120, true, compareE), (36, false, memoM 60 [(pa1, pr1)]), (38, false, memoM 60 [(pa2, pr2)])]
theorem pb1Ok : LookOk PP pb1 ∧ LookFr pb1 :=
  lookOf_cons (fun args => same_call (fn := (PP.funcs[114]?).getD default) (by kernel_rfl) (by kernel_rfl) (by kernel_rfl) (by kernel_rfl) (by kernel_rfl) args) (fun args => sameE_framed args) (lookOf_cons (fun args => compare_call (fn := (PP.funcs[120]?).getD default) (by kernel_rfl) (by kernel_rfl) (by kernel_rfl) (by kernel_rfl) (by kernel_rfl) args) (fun args => compareE_framed args) (lookOf_cons (fun args => memo_call (MemoOk.cons pm1.1 pm1.2 (MemoOk.nil)) args) (fun args => memo_framed 60 _ args) (lookOf_cons (fun args => memo_call (MemoOk.cons pm2.1 pm2.2 (MemoOk.nil)) args) (fun args => memo_framed 60 _ args) (lookOf_nil))))
noncomputable def pa3 : List AV := [(V false 1 [(S [97])]), pv2]
noncomputable def pr3 : AV := pv5
theorem pm3 : pr3.fresh = true ∧ CallPure PP 19 pa3 pr3 :=
  callPure_ran (n := 60) (lookN_ok pb1Ok.1 pb1Ok.2 mixed 100000 60).1 (by kernel_rfl) (by kernel_rfl)
noncomputable def pb2 : Look := lookOf [(114, true, sameE), (120, true, compareE), (18, false, memoM 60 [(pa0, pr0)]), (19, false, memoM 60 [(pa3, pr3)])]
theorem pb2Ok : LookOk PP pb2 ∧ LookFr pb2 :=
  lookOf_cons (fun args => same_call (fn := (PP.funcs[114]?).getD default) (by kernel_rfl) (by kernel_rfl) (by kernel_rfl) (by kernel_rfl) (by kernel_rfl) args) (fun args => sameE_framed args) (lookOf_cons (fun args => compare_call (fn := (PP.funcs[120]?).getD default) (by kernel_rfl) (by kernel_rfl) (by kernel_rfl) (by kernel_rfl) (by kernel_rfl) args) (fun args => compareE_framed args) (lookOf_cons (fun args => memo_call (MemoOk.cons pm0.1 pm0.2 (MemoOk.nil)) args) (fun args => memo_framed 60 _ args) (lookOf_cons (fun args => memo_call (MemoOk.cons pm3.1 pm3.2 (MemoOk.nil)) args) (fun args => memo_framed 60 _ args) (lookOf_nil))))
noncomputable def pa4 : List AV := [(V false 1 [(S [97])]), pv0]
noncomputable def pr4 : AV := pv5
theorem pm4 : pr4.fresh = true ∧ CallPure PP 12 pa4 pr4 :=
  callPure_ran (n := 60) (lookN_ok pb2Ok.1 pb2Ok.2 mixed 100000 60).1 (by kernel_rfl) (by kernel_rfl)
noncomputable def pb3 : Look := lookOf [(114, true, sameE), (120, true, compareE), (12, false, memoM 60 [(pa4, pr4)])]
theorem pb3Ok : LookOk PP pb3 ∧ LookFr pb3 :=
  lookOf_cons (fun args => same_call (fn := (PP.funcs[114]?).getD default) (by kernel_rfl) (by kernel_rfl) (by kernel_rfl) (by kernel_rfl) (by kernel_rfl) args) (fun args => sameE_framed args) (lookOf_cons (fun args => compare_call (fn := (PP.funcs[120]?).getD default) (by kernel_rfl) (by kernel_rfl) (by kernel_rfl) (by kernel_rfl) (by kernel_rfl) args) (fun args => compareE_framed args) (lookOf_cons (fun args => memo_call (MemoOk.cons pm4.1 pm4.2 (MemoOk.nil)) args) (fun args => memo_framed 60 _ args) (lookOf_nil)))
noncomputable def pa5 : List AV := []
noncomputable def pr5 : AV := pv5
theorem pm5 : pr5.fresh = true ∧ CallPure PP 4 pa5 pr5 :=
  callPure_ran (n := 60) (lookN_ok pb3Ok.1 pb3Ok.2 mixed 100000 60).1 (by kernel_rfl) (by kernel_rfl)
noncomputable def pb4 : Look := lookOf [(114, true, sameE), (120, true, compareE), (38, false, memoM 60 [(pa2, pr2)])]
theorem pb4Ok : LookOk PP pb4 ∧ LookFr pb4 :=
  lookOf_cons (fun args => same_call (fn := (PP.funcs[114]?).getD default) (by kernel_rfl) (by kernel_rfl) (by kernel_rfl) (by kernel_rfl) (by kernel_rfl) args) (fun args => sameE_framed args) (lookOf_cons (fun args => compare_call (fn := (PP.funcs[120]?).getD default) (by kernel_rfl) (by kernel_rfl) (by kernel_rfl) (by kernel_rfl) (by kernel_rfl) args) (fun args => compareE_framed args) (lookOf_cons (fun args => memo_call (MemoOk.cons pm2.1 pm2.2 (MemoOk.nil)) args) (fun args => memo_framed 60 _ args) (lookOf_nil)))
noncomputable def pa6 : List AV := [pv4, (V false 1 [(S [119, 119, 119]), (S [97])])]
noncomputable def pr6 : AV := (I .i64 (0))
theorem pm6 : pr6.fresh = true ∧ CallPure PP 39 pa6 pr6 :=
  callPure_ran (n := 60) (lookN_ok pb4Ok.1 pb4Ok.2 mixed 100000 60).1 (by kernel_rfl) (by kernel_rfl)
noncomputable def pa7 : List AV := [pv4, (V false 1 [(S [119, 119, 119]), (S [97])])]
noncomputable def pr7 : AV := (B true)
theorem pm7 : pr7.fresh = true ∧ CallPure PP 42 pa7 pr7 :=
  callPure_ran (n := 60) (lookN_ok pb0Ok.1 pb0Ok.2 mixed 100000 60).1 (by kernel_rfl) (by kernel_rfl)
noncomputable def pb5 : Look := lookOf [(114, true, sameE), (120, true, compareE), (42, false, memoM 60 [(pa7, pr7)])]
theorem pb5Ok : LookOk PP pb5 ∧ LookFr pb5 :=
  lookOf_cons (fun args => same_call (fn := (PP.funcs[114]?).getD default) (by kernel_rfl) (by kernel_rfl) (by kernel_rfl) (by kernel_rfl) (by kernel_rfl) args) (fun args => sameE_framed args) (lookOf_cons (fun args => compare_call (fn := (PP.funcs[120]?).getD default) (by kernel_rfl) (by kernel_rfl) (by kernel_rfl) (by kernel_rfl) (by kernel_rfl) args) (fun args => compareE_framed args) (lookOf_cons (fun args => memo_call (MemoOk.cons pm7.1 pm7.2 (MemoOk.nil)) args) (fun args => memo_framed 60 _ args) (lookOf_nil)))
noncomputable def pa8 : List AV := [pv4, (V false 1 [(S [119, 119, 119]), (S [97])])]
noncomputable def pr8 : AV := (V true 1 [(S [119, 119, 119]), (S [97])])
theorem pm8 : pr8.fresh = true ∧ CallPure PP 41 pa8 pr8 :=
  callPure_ran (n := 60) (lookN_ok pb5Ok.1 pb5Ok.2 mixed 100000 60).1 (by kernel_rfl) (by kernel_rfl)
noncomputable def pv6 : AV := (T [(G [(I .u8 (1)), (V true 1 [(S [119, 119, 119]), (S [97])]), (V true 1 [(S [119, 119, 119]), (S [97])])]), (I .i64 (0))])
noncomputable def pb6 : Look := lookOf [(114, true, sameE), (120, true, compareE), (39, false, memoM 60 [(pa6, pr6)]), (41, false, memoM 60 [(pa8, pr8)])]
theorem pb6Ok : LookOk PP pb6 ∧ LookFr pb6 :=
  lookOf_cons (fun args => same_call (fn := (PP.funcs[114]?).getD default) (by kernel_rfl) (by kernel_rfl) (by kernel_rfl) (by kernel_rfl) (by kernel_rfl) args) (fun args => sameE_framed args) (lookOf_cons (fun args => compare_call (fn := (PP.funcs[120]?).getD default) (by kernel_rfl) (by kernel_rfl) (by kernel_rfl) (by kernel_rfl) (by kernel_rfl) args) (fun args => compareE_framed args) (lookOf_cons (fun args => memo_call (MemoOk.cons pm6.1 pm6.2 (MemoOk.nil)) args) (fun args => memo_framed 60 _ args) (lookOf_cons (fun args => memo_call (MemoOk.cons pm8.1 pm8.2 (MemoOk.nil)) args) (fun args => memo_framed 60 _ args) (lookOf_nil))))
noncomputable def pa9 : List AV := [pv4, (V false 1 [(S [119, 119, 119]), (S [97])])]
noncomputable def pr9 : AV := pv6
theorem pm9 : pr9.fresh = true ∧ CallPure PP 20 pa9 pr9 :=
  callPure_ran (n := 60) (lookN_ok pb6Ok.1 pb6Ok.2 mixed 100000 60).1 (by kernel_rfl) (by kernel_rfl)
noncomputable def pb7 : Look := lookOf [(114, true, sameE), (120, true, compareE), (20, false, memoM 60 [(pa9, pr9)])]
theorem pb7Ok : LookOk PP pb7 ∧ LookFr pb7 :=
  lookOf_cons (fun args => same_call (fn := (PP.funcs[114]?).getD default) (by kernel_rfl) (by kernel_rfl) (by kernel_rfl) (by kernel_rfl) (by kernel_rfl) args) (fun args => sameE_framed args) (lookOf_cons (fun args => compare_call (fn := (PP.funcs[120]?).getD default) (by kernel_rfl) (by kernel_rfl) (by kernel_rfl) (by kernel_rfl) (by kernel_rfl) args) (fun args => compareE_framed args) (lookOf_cons (fun args => memo_call (MemoOk.cons pm9.1 pm9.2 (MemoOk.nil)) args) (fun args => memo_framed 60 _ args) (lookOf_nil)))
noncomputable def pa10 : List AV := [pv4, (V false 1 [(S [119, 119, 119]), (S [97])]), (I .u16 (5))]
noncomputable def pr10 : AV := pv6
theorem pm10 : pr10.fresh = true ∧ CallPure PP 13 pa10 pr10 :=
  callPure_ran (n := 60) (lookN_ok pb7Ok.1 pb7Ok.2 mixed 100000 60).1 (by kernel_rfl) (by kernel_rfl)
noncomputable def pv7 : AV := (T [(G [(I .i64 (0)), (B true), (V true 5 [(G [(V true 1 [(S [119, 119, 119]), (S [97])]), (I .u16 (5)), (I .u16 (1)), (I .u32 (60)), (V true 4 [(G [(V true 1 [(V true 1 [(S [110, 115]), (S [97])])]), (N), (N), (N)])])])]), (N), (N)]), (I .i64 (0))])
noncomputable def pb8 : Look := lookOf [(114, true, sameE), (120, true, compareE), (13, false, memoM 60 [(pa10, pr10)]), (20, false, memoM 60 [(pa9, pr9)])]
theorem pb8Ok : LookOk PP pb8 ∧ LookFr pb8 :=
  lookOf_cons (fun args => same_call (fn := (PP.funcs[114]?).getD default) (by kernel_rfl) (by kernel_rfl) (by kernel_rfl) (by kernel_rfl) (by kernel_rfl) args) (fun args => sameE_framed args) (lookOf_cons (fun args => compare_call (fn := (PP.funcs[120]?).getD default) (by kernel_rfl) (by kernel_rfl) (by kernel_rfl) (by kernel_rfl) (by kernel_rfl) args) (fun args => compareE_framed args) (lookOf_cons (fun args => memo_call (MemoOk.cons pm10.1 pm10.2 (MemoOk.nil)) args) (fun args => memo_framed 60 _ args) (lookOf_cons (fun args => memo_call (MemoOk.cons pm9.1 pm9.2 (MemoOk.nil)) args) (fun args => memo_framed 60 _ args) (lookOf_nil))))
noncomputable def pa11 : List AV := [pv4, (V false 1 [(S [119, 119, 119]), (S [97])]), (I .u16 (5))]
noncomputable def pr11 : AV := pv7
theorem pm11 : pr11.fresh = true ∧ CallPure PP 5 pa11 pr11 :=
  callPure_ran (n := 60) (lookN_ok pb8Ok.1 pb8Ok.2 mixed 100000 60).1 (by kernel_rfl) (by kernel_rfl)
noncomputable def pa12 : List AV := [pv4, (V false 1 [(S [119, 119, 119]), (S [97])]), (I .u16 (255))]
noncomputable def pr12 : AV := pv6
theorem pm12 : pr12.fresh = true ∧ CallPure PP 13 pa12 pr12 :=
  callPure_ran (n := 60) (lookN_ok pb7Ok.1 pb7Ok.2 mixed 100000 60).1 (by kernel_rfl) (by kernel_rfl)
noncomputable def pb9 : Look := lookOf [(114, true, sameE), (120, true, compareE), (13, false, memoM 60 [(pa12, pr12)]), (20, false, memoM 60 [(pa9, pr9)])]
theorem pb9Ok : LookOk PP pb9 ∧ LookFr pb9 :=
  lookOf_cons (fun args => same_call (fn := (PP.funcs[114]?).getD default) (by kernel_rfl) (by kernel_rfl) (by kernel_rfl) (by kernel_rfl) (by kernel_rfl) args) (fun args => sameE_framed args) (lookOf_cons (fun args => compare_call (fn := (PP.funcs[120]?).getD default) (by kernel_rfl) (by kernel_rfl) (by kernel_rfl) (by kernel_rfl) (by kernel_rfl) args) (fun args => compareE_framed args) (lookOf_cons (fun args => memo_call (MemoOk.cons pm12.1 pm12.2 (MemoOk.nil)) args) (fun args => memo_framed 60 _ args) (lookOf_cons (fun args => memo_call (MemoOk.cons pm9.1 pm9.2 (MemoOk.nil)) args) (fun args => memo_framed 60 _ args) (lookOf_nil))))
noncomputable def pa13 : List AV := [pv4, (V false 1 [(S [119, 119, 119]), (S [97])]), (I .u16 (255))]
noncomputable def pr13 : AV := pv7
theorem pm13 : pr13.fresh = true ∧ CallPure PP 5 pa13 pr13 :=
  callPure_ran (n := 60) (lookN_ok pb9Ok.1 pb9Ok.2 mixed 100000 60).1 (by kernel_rfl) (by kernel_rfl)
noncomputable def pa14 : List AV := [pv4, (V false 1 [(S [120]), (S [98]), (S [97])])]
noncomputable def pr14 : AV := (I .i64 (0))
theorem pm14 : pr14.fresh = true ∧ CallPure PP 39 pa14 pr14 :=
  callPure_ran (n := 60) (lookN_ok pb4Ok.1 pb4Ok.2 mixed 100000 60).1 (by kernel_rfl) (by kernel_rfl)
noncomputable def pv8 : AV := (T [(G [(I .u8 (4)), (V true 1 [(S [98]), (S [97])]), (N)]), (I .i64 (0))])
noncomputable def pb10 : Look := lookOf [(114, true, sameE), (120, true, compareE), (39, false, memoM 60 [(pa14, pr14)])]
theorem pb10Ok : LookOk PP pb10 ∧ LookFr pb10 :=
  lookOf_cons (fun args => same_call (fn := (PP.funcs[114]?).getD default) (by kernel_rfl) (by kernel_rfl) (by kernel_rfl) (by kernel_rfl) (by kernel_rfl) args) (fun args => sameE_framed args) (lookOf_cons (fun args => compare_call (fn := (PP.funcs[120]?).getD default) (by kernel_rfl) (by kernel_rfl) (by kernel_rfl) (by kernel_rfl) (by kernel_rfl) args) (fun args => compareE_framed args) (lookOf_cons (fun args => memo_call (MemoOk.cons pm14.1 pm14.2 (MemoOk.nil)) args) (fun args => memo_framed 60 _ args) (lookOf_nil)))
noncomputable def pa15 : List AV := [pv4, (V false 1 [(S [120]), (S [98]), (S [97])])]
noncomputable def pr15 : AV := pv8
theorem pm15 : pr15.fresh = true ∧ CallPure PP 20 pa15 pr15 :=
  callPure_ran (n := 60) (lookN_ok pb10Ok.1 pb10Ok.2 mixed 100000 60).1 (by kernel_rfl) (by kernel_rfl)
noncomputable def pb11 : Look := lookOf [(114, true, sameE), (120, true, compareE), (20, false, memoM 60 [(pa15, pr15)])]
theorem pb11Ok : LookOk PP pb11 ∧ LookFr pb11 :=
  lookOf_cons (fun args => same_call (fn := (PP.funcs[114]?).getD default) (by kernel_rfl) (by kernel_rfl) (by kernel_rfl) (by kernel_rfl) (by kernel_rfl) args) (fun args => sameE_framed args) (lookOf_cons (fun args => compare_call (fn := (PP.funcs[120]?).getD default) (by kernel_rfl) (by kernel_rfl) (by kernel_rfl) (by kernel_rfl) (by kernel_rfl) args) (fun args => compareE_framed args) (lookOf_cons (fun args => memo_call (MemoOk.cons pm15.1 pm15.2 (MemoOk.nil)) args) (fun args => memo_framed 60 _ args) (lookOf_nil)))
noncomputable def pa16 : List AV := [pv4, (V false 1 [(S [120]), (S [98]), (S [97])]), (I .u16 (1))]
noncomputable def pr16 : AV := pv8
theorem pm16 : pr16.fresh = true ∧ CallPure PP 13 pa16 pr16 :=
  callPure_ran (n := 60) (lookN_ok pb11Ok.1 pb11Ok.2 mixed 100000 60).1 (by kernel_rfl) (by kernel_rfl)
noncomputable def pv9 : AV := (T [(G [(I .i64 (0)), (B false), (N), (V true 5 [(G [(V true 1 [(S [98]), (S [97])]), (I .u16 (2)), (I .u16 (1)), (I .u32 (60)), (V true 4 [(G [(V true 1 [(V true 1 [(S [110, 115]), (S [98]), (S [97])])]), (N), (N), (N)])])])]), (V true 5 [(G [(V true 1 [(S [110, 115]), (S [98]), (S [97])]), (I .u16 (1)), (I .u16 (1)), (I .u32 (60)), (V true 4 [(G [(N), (N), (N), (V true 1 [(I .u8 (10)), (I .u8 (0)), (I .u8 (0)), (I .u8 (2))])])])])])]), (I .i64 (0))])
noncomputable def pb12 : Look := lookOf [(114, true, sameE), (120, true, compareE), (13, false, memoM 60 [(pa16, pr16)]), (20, false, memoM 60 [(pa15, pr15)])]
theorem pb12Ok : LookOk PP pb12 ∧ LookFr pb12 :=
  lookOf_cons (fun args => same_call (fn := (PP.funcs[114]?).getD default) (by kernel_rfl) (by kernel_rfl) (by kernel_rfl) (by kernel_rfl) (by kernel_rfl) args) (fun args => sameE_framed args) (lookOf_cons (fun args => compare_call (fn := (PP.funcs[120]?).getD default) (by kernel_rfl) (by kernel_rfl) (by kernel_rfl) (by kernel_rfl) (by kernel_rfl) args) (fun args => compareE_framed args) (lookOf_cons (fun args => memo_call (MemoOk.cons pm16.1 pm16.2 (MemoOk.nil)) args) (fun args => memo_framed 60 _ args) (lookOf_cons (fun args => memo_call (MemoOk.cons pm15.1 pm15.2 (MemoOk.nil)) args) (fun args => memo_framed 60 _ args) (lookOf_nil))))
noncomputable def pa17 : List AV := [pv4, (V false 1 [(S [120]), (S [98]), (S [97])]), (I .u16 (1))]
noncomputable def pr17 : AV := pv9
theorem pm17 : pr17.fresh = true ∧ CallPure PP 5 pa17 pr17 :=
  callPure_ran (n := 60) (lookN_ok pb12Ok.1 pb12Ok.2 mixed 100000 60).1 (by kernel_rfl) (by kernel_rfl)
noncomputable def pa18 : List AV := [pv4, (V false 1 [(S [113]), (S [119]), (S [97])])]
noncomputable def pr18 : AV := (I .i64 (0))
theorem pm18 : pr18.fresh = true ∧ CallPure PP 39 pa18 pr18 :=
  callPure_ran (n := 60) (lookN_ok pb4Ok.1 pb4Ok.2 mixed 100000 60).1 (by kernel_rfl) (by kernel_rfl)
noncomputable def pa19 : List AV := [pv4, (V false 1 [(S [113]), (S [119]), (S [97])])]
noncomputable def pr19 : AV := (B false)
theorem pm19 : pr19.fresh = true ∧ CallPure PP 42 pa19 pr19 :=
  callPure_ran (n := 60) (lookN_ok pb0Ok.1 pb0Ok.2 mixed 100000 60).1 (by kernel_rfl) (by kernel_rfl)
noncomputable def pa20 : List AV := [pv4, (V false 1 [(S [119]), (S [97])])]
noncomputable def pr20 : AV := (B true)
theorem pm20 : pr20.fresh = true ∧ CallPure PP 42 pa20 pr20 :=
  callPure_ran (n := 60) (lookN_ok pb0Ok.1 pb0Ok.2 mixed 100000 60).1 (by kernel_rfl) (by kernel_rfl)
noncomputable def pb13 : Look := lookOf [(114, true, sameE), (120, true, compareE), (42, false, memoM 60 [(pa19, pr19), (pa20, pr20)])]
theorem pb13Ok : LookOk PP pb13 ∧ LookFr pb13 :=
  lookOf_cons (fun args => same_call (fn := (PP.funcs[114]?).getD default) (by kernel_rfl) (by kernel_rfl) (by kernel_rfl) (by kernel_rfl) (by kernel_rfl) args) (fun args => sameE_framed args) (lookOf_cons (fun args => compare_call (fn := (PP.funcs[120]?).getD default) (by kernel_rfl) (by kernel_rfl) (by kernel_rfl) (by kernel_rfl) (by kernel_rfl) args) (fun args => compareE_framed args) (lookOf_cons (fun args => memo_call (MemoOk.cons pm19.1 pm19.2 (MemoOk.cons pm20.1 pm20.2 (MemoOk.nil))) args) (fun args => memo_framed 60 _ args) (lookOf_nil)))
noncomputable def pa21 : List AV := [pv4, (V false 1 [(S [113]), (S [119]), (S [97])])]
noncomputable def pr21 : AV := (V true 1 [(S [119]), (S [97])])
theorem pm21 : pr21.fresh = true ∧ CallPure PP 41 pa21 pr21 :=
  callPure_ran (n := 60) (lookN_ok pb13Ok.1 pb13Ok.2 mixed 100000 60).1 (by kernel_rfl) (by kernel_rfl)
noncomputable def pa22 : List AV := [pv4, (V false 1 [(S [42]), (S [119]), (S [97])])]
noncomputable def pr22 : AV := (B true)
theorem pm22 : pr22.fresh = true ∧ CallPure PP 42 pa22 pr22 :=
  callPure_ran (n := 60) (lookN_ok pb0Ok.1 pb0Ok.2 mixed 100000 60).1 (by kernel_rfl) (by kernel_rfl)
noncomputable def pv10 : AV := (T [(G [(I .u8 (3)), (V true 1 [(S [42]), (S [119]), (S [97])]), (V true 1 [(S [119]), (S [97])])]), (I .i64 (0))])
noncomputable def pb14 : Look := lookOf [(114, true, sameE), (120, true, compareE), (39, false, memoM 60 [(pa18, pr18)]), (41, false, memoM 60 [(pa21, pr21)]), (42, false, memoM 60 [(pa22, pr22)])]
theorem pb14Ok : LookOk PP pb14 ∧ LookFr pb14 :=
  lookOf_cons (fun args => same_call (fn := (PP.funcs[114]?).getD default) (by kernel_rfl) (by kernel_rfl) (by kernel_rfl) (by kernel_rfl) (by kernel_rfl) args) (fun args => sameE_framed args) (lookOf_cons (fun args => compare_call (fn := (PP.funcs[120]?).getD default) (by kernel_rfl) (by kernel_rfl) (by kernel_rfl) (by kernel_rfl) (by kernel_rfl) args) (fun args => compareE_framed args) (lookOf_cons (fun args => memo_call (MemoOk.cons pm18.1 pm18.2 (MemoOk.nil)) args) (fun args => memo_framed 60 _ args) (lookOf_cons (fun args => memo_call (MemoOk.cons pm21.1 pm21.2 (MemoOk.nil)) args) (fun args => memo_framed 60 _ args) (lookOf_cons (fun args => memo_call (MemoOk.cons pm22.1 pm22.2 (MemoOk.nil)) args) (fun args => memo_framed 60 _ args) (lookOf_nil)))))
noncomputable def pa23 : List AV := [pv4, (V false 1 [(S [113]), (S [119]), (S [97])])]
noncomputable def pr23 : AV := pv10
theorem pm23 : pr23.fresh = true ∧ CallPure PP 20 pa23 pr23 :=
  callPure_ran (n := 60) (lookN_ok pb14Ok.1 pb14Ok.2 mixed 100000 60).1 (by kernel_rfl) (by kernel_rfl)
noncomputable def pb15 : Look := lookOf [(114, true, sameE), (120, true, compareE), (20, false, memoM 60 [(pa23, pr23)])]
theorem pb15Ok : LookOk PP pb15 ∧ LookFr pb15 :=
  lookOf_cons (fun args => same_call (fn := (PP.funcs[114]?).getD default) (by kernel_rfl) (by kernel_rfl) (by kernel_rfl) (by kernel_rfl) (by kernel_rfl) args) (fun args => sameE_framed args) (lookOf_cons (fun args => compare_call (fn := (PP.funcs[120]?).getD default) (by kernel_rfl) (by kernel_rfl) (by kernel_rfl) (by kernel_rfl) (by kernel_rfl) args) (fun args => compareE_framed args) (lookOf_cons (fun args => memo_call (MemoOk.cons pm23.1 pm23.2 (MemoOk.nil)) args) (fun args => memo_framed 60 _ args) (lookOf_nil)))
noncomputable def pa24 : List AV := [pv4, (V false 1 [(S [113]), (S [119]), (S [97])]), (I .u16 (1))]
noncomputable def pr24 : AV := pv10
theorem pm24 : pr24.fresh = true ∧ CallPure PP 13 pa24 pr24 :=
  callPure_ran (n := 60) (lookN_ok pb15Ok.1 pb15Ok.2 mixed 100000 60).1 (by kernel_rfl) (by kernel_rfl)
noncomputable def pv11 : AV := (T [(G [(I .i64 (0)), (B true), (V true 5 [(G [(V true 1 [(S [113]), (S [119]), (S [97])]), (I .u16 (1)), (I .u16 (1)), (I .u32 (60)), (V true 4 [(G [(N), (N), (N), (V true 1 [(I .u8 (10)), (I .u8 (0)), (I .u8 (0)), (I .u8 (3))])])])])]), (N), (N)]), (I .i64 (0))])
noncomputable def pb16 : Look := lookOf [(114, true, sameE), (120, true, compareE), (13, false, memoM 60 [(pa24, pr24)]), (20, false, memoM 60 [(pa23, pr23)])]
theorem pb16Ok : LookOk PP pb16 ∧ LookFr pb16 :=
  lookOf_cons (fun args => same_call (fn := (PP.funcs[114]?).getD default) (by kernel_rfl) (by kernel_rfl) (by kernel_rfl) (by kernel_rfl) (by kernel_rfl) args) (fun args => sameE_framed args) (lookOf_cons (fun args => compare_call (fn := (PP.funcs[120]?).getD default) (by kernel_rfl) (by kernel_rfl) (by kernel_rfl) (by kernel_rfl) (by kernel_rfl) args) (fun args => compareE_framed args) (lookOf_cons (fun args => memo_call (MemoOk.cons pm24.1 pm24.2 (MemoOk.nil)) args) (fun args => memo_framed 60 _ args) (lookOf_cons (fun args => memo_call (MemoOk.cons pm23.1 pm23.2 (MemoOk.nil)) args) (fun args => memo_framed 60 _ args) (lookOf_nil))))
noncomputable def pa25 : List AV := [pv4, (V false 1 [(S [113]), (S [119]), (S [97])]), (I .u16 (1))]
noncomputable def pr25 : AV := pv11
theorem pm25 : pr25.fresh = true ∧ CallPure PP 5 pa25 pr25 :=
  callPure_ran (n := 60) (lookN_ok pb16Ok.1 pb16Ok.2 mixed 100000 60).1 (by kernel_rfl) (by kernel_rfl)
noncomputable def pa26 : List AV := [pv4, (V false 1 [(S [113]), (S [119]), (S [97])]), (I .u16 (16))]
noncomputable def pr26 : AV := pv10
theorem pm26 : pr26.fresh = true ∧ CallPure PP 13 pa26 pr26 :=
  callPure_ran (n := 60) (lookN_ok pb15Ok.1 pb15Ok.2 mixed 100000 60).1 (by kernel_rfl) (by kernel_rfl)
noncomputable def pv12 : AV := (T [(G [(I .i64 (0)), (B true), (N), (V true 5 [(G [(V true 1 [(S [97])]), (I .u16 (6)), (I .u16 (1)), (I .u32 (30)), (V true 4 [(G [(V true 1 [(V true 1 [(S [110, 115]), (S [97])]), (V true 1 [(S [97])])]), (V true 1 [(I .u32 (1)), (I .u32 (2)), (I .u32 (3)), (I .u32 (4)), (I .u32 (30))]), (N), (N)])])])]), (N)]), (I .i64 (0))])
noncomputable def pb17 : Look := lookOf [(114, true, sameE), (120, true, compareE), (13, false, memoM 60 [(pa26, pr26)]), (20, false, memoM 60 [(pa23, pr23)])]
theorem pb17Ok : LookOk PP pb17 ∧ LookFr pb17 :=
  lookOf_cons (fun args => same_call (fn := (PP.funcs[114]?).getD default) (by kernel_rfl) (by kernel_rfl) (by kernel_rfl) (by kernel_rfl) (by kernel_rfl) args) (fun args => sameE_framed args) (lookOf_cons (fun args => compare_call (fn := (PP.funcs[120]?).getD default) (by kernel_rfl) (by kernel_rfl) (by kernel_rfl) (by kernel_rfl) (by kernel_rfl) args) (fun args => compareE_framed args) (lookOf_cons (fun args => memo_call (MemoOk.cons pm26.1 pm26.2 (MemoOk.nil)) args) (fun args => memo_framed 60 _ args) (lookOf_cons (fun args => memo_call (MemoOk.cons pm23.1 pm23.2 (MemoOk.nil)) args) (fun args => memo_framed 60 _ args) (lookOf_nil))))
noncomputable def pa27 : List AV := [pv4, (V false 1 [(S [113]), (S [119]), (S [97])]), (I .u16 (16))]
noncomputable def pr27 : AV := pv12
theorem pm27 : pr27.fresh = true ∧ CallPure PP 5 pa27 pr27 :=
  callPure_ran (n := 60) (lookN_ok pb17Ok.1 pb17Ok.2 mixed 100000 60).1 (by kernel_rfl) (by kernel_rfl)
noncomputable def pa28 : List AV := [pv4, (V false 1 [(S [119]), (S [97])])]
noncomputable def pr28 : AV := (I .i64 (0))
theorem pm28 : pr28.fresh = true ∧ CallPure PP 39 pa28 pr28 :=
  callPure_ran (n := 60) (lookN_ok pb4Ok.1 pb4Ok.2 mixed 100000 60).1 (by kernel_rfl) (by kernel_rfl)
noncomputable def pb18 : Look := lookOf [(114, true, sameE), (120, true, compareE), (42, false, memoM 60 [(pa20, pr20)])]
theorem pb18Ok : LookOk PP pb18 ∧ LookFr pb18 :=
  lookOf_cons (fun args => same_call (fn := (PP.funcs[114]?).getD default) (by kernel_rfl) (by kernel_rfl) (by kernel_rfl) (by kernel_rfl) (by kernel_rfl) args) (fun args => sameE_framed args) (lookOf_cons (fun args => compare_call (fn := (PP.funcs[120]?).getD default) (by kernel_rfl) (by kernel_rfl) (by kernel_rfl) (by kernel_rfl) (by kernel_rfl) args) (fun args => compareE_framed args) (lookOf_cons (fun args => memo_call (MemoOk.cons pm20.1 pm20.2 (MemoOk.nil)) args) (fun args => memo_framed 60 _ args) (lookOf_nil)))
noncomputable def pa29 : List AV := [pv4, (V false 1 [(S [119]), (S [97])])]
noncomputable def pr29 : AV := (V true 1 [(S [119]), (S [97])])
theorem pm29 : pr29.fresh = true ∧ CallPure PP 41 pa29 pr29 :=
  callPure_ran (n := 60) (lookN_ok pb18Ok.1 pb18Ok.2 mixed 100000 60).1 (by kernel_rfl) (by kernel_rfl)
noncomputable def pv13 : AV := (T [(G [(I .u8 (2)), (N), (V true 1 [(S [119]), (S [97])])]), (I .i64 (0))])
noncomputable def pb19 : Look := lookOf [(114, true, sameE), (120, true, compareE), (39, false, memoM 60 [(pa28, pr28)]), (41, false, memoM 60 [(pa29, pr29)])]
theorem pb19Ok : LookOk PP pb19 ∧ LookFr pb19 :=
  lookOf_cons (fun args => same_call (fn := (PP.funcs[114]?).getD default) (by kernel_rfl) (by kernel_rfl) (by kernel_rfl) (by kernel_rfl) (by kernel_rfl) args) (fun args => sameE_framed args) (lookOf_cons (fun args => compare_call (fn := (PP.funcs[120]?).getD default) (by kernel_rfl) (by kernel_rfl) (by kernel_rfl) (by kernel_rfl) (by kernel_rfl) args) (fun args => compareE_framed args) (lookOf_cons (fun args => memo_call (MemoOk.cons pm28.1 pm28.2 (MemoOk.nil)) args) (fun args => memo_framed 60 _ args) (lookOf_cons (fun args => memo_call (MemoOk.cons pm29.1 pm29.2 (MemoOk.nil)) args) (fun args => memo_framed 60 _ args) (lookOf_nil))))
noncomputable def pa30 : List AV := [pv4, (V false 1 [(S [119]), (S [97])])]
noncomputable def pr30 : AV := pv13
theorem pm30 : pr30.fresh = true ∧ CallPure PP 20 pa30 pr30 :=
  callPure_ran (n := 60) (lookN_ok pb19Ok.1 pb19Ok.2 mixed 100000 60).1 (by kernel_rfl) (by kernel_rfl)
noncomputable def pb20 : Look := lookOf [(114, true, sameE), (120, true, compareE), (20, false, memoM 60 [(pa30, pr30)])]
theorem pb20Ok : LookOk PP pb20 ∧ LookFr pb20 :=
  lookOf_cons (fun args => same_call (fn := (PP.funcs[114]?).getD default) (by kernel_rfl) (by kernel_rfl) (by kernel_rfl) (by kernel_rfl) (by kernel_rfl) args) (fun args => sameE_framed args) (lookOf_cons (fun args => compare_call (fn := (PP.funcs[120]?).getD default) (by kernel_rfl) (by kernel_rfl) (by kernel_rfl) (by kernel_rfl) (by kernel_rfl) args) (fun args => compareE_framed args) (lookOf_cons (fun args => memo_call (MemoOk.cons pm30.1 pm30.2 (MemoOk.nil)) args) (fun args => memo_framed 60 _ args) (lookOf_nil)))
noncomputable def pa31 : List AV := [pv4, (V false 1 [(S [119]), (S [97])]), (I .u16 (1))]
noncomputable def pr31 : AV := pv13
theorem pm31 : pr31.fresh = true ∧ CallPure PP 13 pa31 pr31 :=
  callPure_ran (n := 60) (lookN_ok pb20Ok.1 pb20Ok.2 mixed 100000 60).1 (by kernel_rfl) (by kernel_rfl)
noncomputable def pb21 : Look := lookOf [(114, true, sameE), (120, true, compareE), (13, false, memoM 60 [(pa31, pr31)]), (20, false, memoM 60 [(pa30, pr30)])]
theorem pb21Ok : LookOk PP pb21 ∧ LookFr pb21 :=
  lookOf_cons (fun args => same_call (fn := (PP.funcs[114]?).getD default) (by kernel_rfl) (by kernel_rfl) (by kernel_rfl) (by kernel_rfl) (by kernel_rfl) args) (fun args => sameE_framed args) (lookOf_cons (fun args => compare_call (fn := (PP.funcs[120]?).getD default) (by kernel_rfl) (by kernel_rfl) (by kernel_rfl) (by kernel_rfl) (by kernel_rfl) args) (fun args => compareE_framed args) (lookOf_cons (fun args => memo_call (MemoOk.cons pm31.1 pm31.2 (MemoOk.nil)) args) (fun args => memo_framed 60 _ args) (lookOf_cons (fun args => memo_call (MemoOk.cons pm30.1 pm30.2 (MemoOk.nil)) args) (fun args => memo_framed 60 _ args) (lookOf_nil))))
noncomputable def pa32 : List AV := [pv4, (V false 1 [(S [119]), (S [97])]), (I .u16 (1))]
noncomputable def pr32 : AV := pv12
theorem pm32 : pr32.fresh = true ∧ CallPure PP 5 pa32 pr32 :=
  callPure_ran (n := 60) (lookN_ok pb21Ok.1 pb21Ok.2 mixed 100000 60).1 (by kernel_rfl) (by kernel_rfl)
noncomputable def pa33 : List AV := [pv4, (V false 1 [(S [113]), (S [97])])]
noncomputable def pr33 : AV := (I .i64 (0))
theorem pm33 : pr33.fresh = true ∧ CallPure PP 39 pa33 pr33 :=
  callPure_ran (n := 60) (lookN_ok pb4Ok.1 pb4Ok.2 mixed 100000 60).1 (by kernel_rfl) (by kernel_rfl)
noncomputable def pa34 : List AV := [pv4, (V false 1 [(S [113]), (S [97])])]
noncomputable def pr34 : AV := (B false)
theorem pm34 : pr34.fresh = true ∧ CallPure PP 42 pa34 pr34 :=
  callPure_ran (n := 60) (lookN_ok pb0Ok.1 pb0Ok.2 mixed 100000 60).1 (by kernel_rfl) (by kernel_rfl)
noncomputable def pa35 : List AV := [pv4, (V false 1 [(S [97])])]
noncomputable def pr35 : AV := (B true)
theorem pm35 : pr35.fresh = true ∧ CallPure PP 42 pa35 pr35 :=
  callPure_ran (n := 60) (lookN_ok pb0Ok.1 pb0Ok.2 mixed 100000 60).1 (by kernel_rfl) (by kernel_rfl)
noncomputable def pb22 : Look := lookOf [(114, true, sameE), (120, true, compareE), (42, false, memoM 60 [(pa34, pr34), (pa35, pr35)])]
theorem pb22Ok : LookOk PP pb22 ∧ LookFr pb22 :=
  lookOf_cons (fun args => same_call (fn := (PP.funcs[114]?).getD default) (by kernel_rfl) (by kernel_rfl) (by kernel_rfl) (by kernel_rfl) (by kernel_rfl) args) (fun args => sameE_framed args) (lookOf_cons (fun args => compare_call (fn := (PP.funcs[120]?).getD default) (by kernel_rfl) (by kernel_rfl) (by kernel_rfl) (by kernel_rfl) (by kernel_rfl) args) (fun args => compareE_framed args) (lookOf_cons (fun args => memo_call (MemoOk.cons pm34.1 pm34.2 (MemoOk.cons pm35.1 pm35.2 (MemoOk.nil))) args) (fun args => memo_framed 60 _ args) (lookOf_nil)))
noncomputable def pa36 : List AV := [pv4, (V false 1 [(S [113]), (S [97])])]
noncomputable def pr36 : AV := (V true 1 [(S [97])])
theorem pm36 : pr36.fresh = true ∧ CallPure PP 41 pa36 pr36 :=
  callPure_ran (n := 60) (lookN_ok pb22Ok.1 pb22Ok.2 mixed 100000 60).1 (by kernel_rfl) (by kernel_rfl)
noncomputable def pa37 : List AV := [pv4, (V false 1 [(S [42]), (S [97])])]
noncomputable def pr37 : AV := (B false)
theorem pm37 : pr37.fresh = true ∧ CallPure PP 42 pa37 pr37 :=
  callPure_ran (n := 60) (lookN_ok pb0Ok.1 pb0Ok.2 mixed 100000 60).1 (by kernel_rfl) (by kernel_rfl)
noncomputable def pv14 : AV := (T [(G [(I .u8 (0)), (N), (V true 1 [(S [97])])]), (I .i64 (0))])
noncomputable def pb23 : Look := lookOf [(114, true, sameE), (120, true, compareE), (39, false, memoM 60 [(pa33, pr33)]), (41, false, memoM 60 [(pa36, pr36)]), (42, false, memoM 60 [(pa37, pr37)])]
theorem pb23Ok : LookOk PP pb23 ∧ LookFr pb23 :=
  lookOf_cons (fun args => same_call (fn := (PP.funcs[114]?).getD default) (by kernel_rfl) (by kernel_rfl) (by kernel_rfl) (by kernel_rfl) (by kernel_rfl) args) (fun args => sameE_framed args) (lookOf_cons (fun args => compare_call (fn := (PP.funcs[120]?).getD default) (by kernel_rfl) (by kernel_rfl) (by kernel_rfl) (by kernel_rfl) (by kernel_rfl) args) (fun args => compareE_framed args) (lookOf_cons (fun args => memo_call (MemoOk.cons pm33.1 pm33.2 (MemoOk.nil)) args) (fun args => memo_framed 60 _ args) (lookOf_cons (fun args => memo_call (MemoOk.cons pm36.1 pm36.2 (MemoOk.nil)) args) (fun args => memo_framed 60 _ args) (lookOf_cons (fun args => memo_call (MemoOk.cons pm37.1 pm37.2 (MemoOk.nil)) args) (fun args => memo_framed 60 _ args) (lookOf_nil)))))
noncomputable def pa38 : List AV := [pv4, (V false 1 [(S [113]), (S [97])])]
noncomputable def pr38 : AV := pv14
theorem pm38 : pr38.fresh = true ∧ CallPure PP 20 pa38 pr38 :=
  callPure_ran (n := 60) (lookN_ok pb23Ok.1 pb23Ok.2 mixed 100000 60).1 (by kernel_rfl) (by kernel_rfl)
noncomputable def pb24 : Look := lookOf [(114, true, sameE), (120, true, compareE), (20, false, memoM 60 [(pa38, pr38)])]
theorem pb24Ok : LookOk PP pb24 ∧ LookFr pb24 :=
  lookOf_cons (fun args => same_call (fn := (PP.funcs[114]?).getD default) (by kernel_rfl) (by kernel_rfl) (by kernel_rfl) (by kernel_rfl) (by kernel_rfl) args) (fun args => sameE_framed args) (lookOf_cons (fun args => compare_call (fn := (PP.funcs[120]?).getD default) (by kernel_rfl) (by kernel_rfl) (by kernel_rfl) (by kernel_rfl) (by kernel_rfl) args) (fun args => compareE_framed args) (lookOf_cons (fun args => memo_call (MemoOk.cons pm38.1 pm38.2 (MemoOk.nil)) args) (fun args => memo_framed 60 _ args) (lookOf_nil)))
noncomputable def pa39 : List AV := [pv4, (V false 1 [(S [113]), (S [97])]), (I .u16 (1))]
noncomputable def pr39 : AV := pv14
theorem pm39 : pr39.fresh = true ∧ CallPure PP 13 pa39 pr39 :=
  callPure_ran (n := 60) (lookN_ok pb24Ok.1 pb24Ok.2 mixed 100000 60).1 (by kernel_rfl) (by kernel_rfl)
noncomputable def pv15 : AV := (T [(G [(I .i64 (3)), (B true), (N), (V true 5 [(G [(V true 1 [(S [97])]), (I .u16 (6)), (I .u16 (1)), (I .u32 (30)), (V true 4 [(G [(V true 1 [(V true 1 [(S [110, 115]), (S [97])]), (V true 1 [(S [97])])]), (V true 1 [(I .u32 (1)), (I .u32 (2)), (I .u32 (3)), (I .u32 (4)), (I .u32 (30))]), (N), (N)])])])]), (N)]), (I .i64 (0))])
noncomputable def pb25 : Look := lookOf [(114, true, sameE), (120, true, compareE), (13, false, memoM 60 [(pa39, pr39)]), (20, false, memoM 60 [(pa38, pr38)])]
theorem pb25Ok : LookOk PP pb25 ∧ LookFr pb25 :=
  lookOf_cons (fun args => same_call (fn := (PP.funcs[114]?).getD default) (by kernel_rfl) (by kernel_rfl) (by kernel_rfl) (by kernel_rfl) (by kernel_rfl) args) (fun args => sameE_framed args) (lookOf_cons (fun args => compare_call (fn := (PP.funcs[120]?).getD default) (by kernel_rfl) (by kernel_rfl) (by kernel_rfl) (by kernel_rfl) (by kernel_rfl) args) (fun args => compareE_framed args) (lookOf_cons (fun args => memo_call (MemoOk.cons pm39.1 pm39.2 (MemoOk.nil)) args) (fun args => memo_framed 60 _ args) (lookOf_cons (fun args => memo_call (MemoOk.cons pm38.1 pm38.2 (MemoOk.nil)) args) (fun args => memo_framed 60 _ args) (lookOf_nil))))
noncomputable def pa40 : List AV := [pv4, (V false 1 [(S [113]), (S [97])]), (I .u16 (1))]
noncomputable def pr40 : AV := pv15
theorem pm40 : pr40.fresh = true ∧ CallPure PP 5 pa40 pr40 :=
  callPure_ran (n := 60) (lookN_ok pb25Ok.1 pb25Ok.2 mixed 100000 60).1 (by kernel_rfl) (by kernel_rfl)
noncomputable def pa41 : List AV := [pv4, (V false 1 [(S [97])])]
noncomputable def pr41 : AV := (I .i64 (0))
theorem pm41 : pr41.fresh = true ∧ CallPure PP 39 pa41 pr41 :=
  callPure_ran (n := 60) (lookN_ok pb4Ok.1 pb4Ok.2 mixed 100000 60).1 (by kernel_rfl) (by kernel_rfl)
noncomputable def pb26 : Look := lookOf [(114, true, sameE), (120, true, compareE), (42, false, memoM 60 [(pa35, pr35)])]
theorem pb26Ok : LookOk PP pb26 ∧ LookFr pb26 :=
  lookOf_cons (fun args => same_call (fn := (PP.funcs[114]?).getD default) (by kernel_rfl) (by kernel_rfl) (by kernel_rfl) (by kernel_rfl) (by kernel_rfl) args) (fun args => sameE_framed args) (lookOf_cons (fun args => compare_call (fn := (PP.funcs[120]?).getD default) (by kernel_rfl) (by kernel_rfl) (by kernel_rfl) (by kernel_rfl) (by kernel_rfl) args) (fun args => compareE_framed args) (lookOf_cons (fun args => memo_call (MemoOk.cons pm35.1 pm35.2 (MemoOk.nil)) args) (fun args => memo_framed 60 _ args) (lookOf_nil)))
noncomputable def pa42 : List AV := [pv4, (V false 1 [(S [97])])]
noncomputable def pr42 : AV := (V true 1 [(S [97])])
theorem pm42 : pr42.fresh = true ∧ CallPure PP 41 pa42 pr42 :=
  callPure_ran (n := 60) (lookN_ok pb26Ok.1 pb26Ok.2 mixed 100000 60).1 (by kernel_rfl) (by kernel_rfl)
noncomputable def pv16 : AV := (T [(G [(I .u8 (1)), (V true 1 [(S [97])]), (V true 1 [(S [97])])]), (I .i64 (0))])
noncomputable def pb27 : Look := lookOf [(114, true, sameE), (120, true, compareE), (39, false, memoM 60 [(pa41, pr41)]), (41, false, memoM 60 [(pa42, pr42)])]
theorem pb27Ok : LookOk PP pb27 ∧ LookFr pb27 :=
  lookOf_cons (fun args => same_call (fn := (PP.funcs[114]?).getD default) (by kernel_rfl) (by kernel_rfl) (by kernel_rfl) (by kernel_rfl) (by kernel_rfl) args) (fun args => sameE_framed args) (lookOf_cons (fun args => compare_call (fn := (PP.funcs[120]?).getD default) (by kernel_rfl) (by kernel_rfl) (by kernel_rfl) (by kernel_rfl) (by kernel_rfl) args) (fun args => compareE_framed args) (lookOf_cons (fun args => memo_call (MemoOk.cons pm41.1 pm41.2 (MemoOk.nil)) args) (fun args => memo_framed 60 _ args) (lookOf_cons (fun args => memo_call (MemoOk.cons pm42.1 pm42.2 (MemoOk.nil)) args) (fun args => memo_framed 60 _ args) (lookOf_nil))))
noncomputable def pa43 : List AV := [pv4, (V false 1 [(S [97])])]
noncomputable def pr43 : AV := pv16
theorem pm43 : pr43.fresh = true ∧ CallPure PP 20 pa43 pr43 :=
  callPure_ran (n := 60) (lookN_ok pb27Ok.1 pb27Ok.2 mixed 100000 60).1 (by kernel_rfl) (by kernel_rfl)
noncomputable def pb28 : Look := lookOf [(114, true, sameE), (120, true, compareE), (20, false, memoM 60 [(pa43, pr43)])]
theorem pb28Ok : LookOk PP pb28 ∧ LookFr pb28 :=
  lookOf_cons (fun args => same_call (fn := (PP.funcs[114]?).getD default) (by kernel_rfl) (by kernel_rfl) (by kernel_rfl) (by kernel_rfl) (by kernel_rfl) args) (fun args => sameE_framed args) (lookOf_cons (fun args => compare_call (fn := (PP.funcs[120]?).getD default) (by kernel_rfl) (by kernel_rfl) (by kernel_rfl) (by kernel_rfl) (by kernel_rfl) args) (fun args => compareE_framed args) (lookOf_cons (fun args => memo_call (MemoOk.cons pm43.1 pm43.2 (MemoOk.nil)) args) (fun args => memo_framed 60 _ args) (lookOf_nil)))
noncomputable def pa44 : List AV := [pv4, (V false 1 [(S [97])]), (I .u16 (2))]
noncomputable def pr44 : AV := pv16
theorem pm44 : pr44.fresh = true ∧ CallPure PP 13 pa44 pr44 :=
  callPure_ran (n := 60) (lookN_ok pb28Ok.1 pb28Ok.2 mixed 100000 60).1 (by kernel_rfl) (by kernel_rfl)
noncomputable def pv17 : AV := (T [(G [(I .i64 (0)), (B true), (V true 5 [(G [(V true 1 [(S [97])]), (I .u16 (2)), (I .u16 (1)), (I .u32 (60)), (V true 4 [(G [(V true 1 [(V true 1 [(S [110, 115]), (S [97])])]), (N), (N), (N)])])])]), (N), (V true 5 [(G [(V true 1 [(S [110, 115]), (S [97])]), (I .u16 (1)), (I .u16 (1)), (I .u32 (60)), (V true 4 [(G [(N), (N), (N), (V true 1 [(I .u8 (10)), (I .u8 (0)), (I .u8 (0)), (I .u8 (1))])])])])])]), (I .i64 (0))])
noncomputable def pb29 : Look := lookOf [(114, true, sameE), (120, true, compareE), (13, false, memoM 60 [(pa44, pr44)]), (20, false, memoM 60 [(pa43, pr43)])]
theorem pb29Ok : LookOk PP pb29 ∧ LookFr pb29 :=
  lookOf_cons (fun args => same_call (fn := (PP.funcs[114]?).getD default) (by kernel_rfl) (by kernel_rfl) (by kernel_rfl) (by kernel_rfl) (by kernel_rfl) args) (fun args => sameE_framed args) (lookOf_cons (fun args => compare_call (fn := (PP.funcs[120]?).getD default) (by kernel_rfl) (by kernel_rfl) (by kernel_rfl) (by kernel_rfl) (by kernel_rfl) args) (fun args => compareE_framed args) (lookOf_cons (fun args => memo_call (MemoOk.cons pm44.1 pm44.2 (MemoOk.nil)) args) (fun args => memo_framed 60 _ args) (lookOf_cons (fun args => memo_call (MemoOk.cons pm43.1 pm43.2 (MemoOk.nil)) args) (fun args => memo_framed 60 _ args) (lookOf_nil))))
noncomputable def pa45 : List AV := [pv4, (V false 1 [(S [97])]), (I .u16 (2))]
noncomputable def pr45 : AV := pv17
theorem pm45 : pr45.fresh = true ∧ CallPure PP 5 pa45 pr45 :=
  callPure_ran (n := 60) (lookN_ok pb29Ok.1 pb29Ok.2 mixed 100000 60).1 (by kernel_rfl) (by kernel_rfl)
noncomputable def pa46 : List AV := [pv4, (V false 1 [(S [119, 119, 119]), (S [97])]), (I .u16 (1))]
noncomputable def pr46 : AV := pv6
theorem pm46 : pr46.fresh = true ∧ CallPure PP 13 pa46 pr46 :=
  callPure_ran (n := 60) (lookN_ok pb7Ok.1 pb7Ok.2 mixed 100000 60).1 (by kernel_rfl) (by kernel_rfl)
noncomputable def pv18 : AV := (T [(G [(I .u8 (1)), (V true 5 [(G [(V true 1 [(S [119, 119, 119]), (S [97])]), (I .u16 (5)), (I .u16 (1)), (I .u32 (60)), (V true 4 [(G [(V true 1 [(V true 1 [(S [110, 115]), (S [97])])]), (N), (N), (N)])])])]), (V true 1 [(S [110, 115]), (S [97])])]), (I .i64 (0))])
noncomputable def pb30 : Look := lookOf [(114, true, sameE), (120, true, compareE), (13, false, memoM 60 [(pa46, pr46)])]
theorem pb30Ok : LookOk PP pb30 ∧ LookFr pb30 :=
  lookOf_cons (fun args => same_call (fn := (PP.funcs[114]?).getD default) (by kernel_rfl) (by kernel_rfl) (by kernel_rfl) (by kernel_rfl) (by kernel_rfl) args) (fun args => sameE_framed args) (lookOf_cons (fun args => compare_call (fn := (PP.funcs[120]?).getD default) (by kernel_rfl) (by kernel_rfl) (by kernel_rfl) (by kernel_rfl) (by kernel_rfl) args) (fun args => compareE_framed args) (lookOf_cons (fun args => memo_call (MemoOk.cons pm46.1 pm46.2 (MemoOk.nil)) args) (fun args => memo_framed 60 _ args) (lookOf_nil)))
noncomputable def pa47 : List AV := [pv4, (V false 1 [(S [119, 119, 119]), (S [97])]), (I .u16 (1))]
noncomputable def pr47 : AV := pv18
theorem pm47 : pr47.fresh = true ∧ CallPure PP 6 pa47 pr47 :=
  callPure_ran (n := 60) (lookN_ok pb30Ok.1 pb30Ok.2 mixed 100000 60).1 (by kernel_rfl) (by kernel_rfl)
noncomputable def pa48 : List AV := [pv4, (V false 1 [(S [97])]), (I .u16 (0))]
noncomputable def pr48 : AV := (T [(G [(I .u8 (0)), (N), (N)]), (I .i64 (6))])
theorem pm48 : pr48.fresh = true ∧ CallPure PP 13 pa48 pr48 :=
  callPure_ran (n := 60) (lookN_ok pb28Ok.1 pb28Ok.2 mixed 100000 60).1 (by kernel_rfl) (by kernel_rfl)
noncomputable def pv19 : AV := (T [(G [(I .i64 (0)), (B false), (N), (N), (N)]), (I .i64 (6))])
noncomputable def pb31 : Look := lookOf [(114, true, sameE), (120, true, compareE), (13, false, memoM 60 [(pa48, pr48)])]
theorem pb31Ok : LookOk PP pb31 ∧ LookFr pb31 :=
  lookOf_cons (fun args => same_call (fn := (PP.funcs[114]?).getD default) (by kernel_rfl) (by kernel_rfl) (by kernel_rfl) (by kernel_rfl) (by kernel_rfl) args) (fun args => sameE_framed args) (lookOf_cons (fun args => compare_call (fn := (PP.funcs[120]?).getD default) (by kernel_rfl) (by kernel_rfl) (by kernel_rfl) (by kernel_rfl) (by kernel_rfl) args) (fun args => compareE_framed args) (lookOf_cons (fun args => memo_call (MemoOk.cons pm48.1 pm48.2 (MemoOk.nil)) args) (fun args => memo_framed 60 _ args) (lookOf_nil)))
noncomputable def pa49 : List AV := [pv4, (V false 1 [(S [97])]), (I .u16 (0))]
noncomputable def pr49 : AV := pv19
theorem pm49 : pr49.fresh = true ∧ CallPure PP 5 pa49 pr49 :=
  callPure_ran (n := 60) (lookN_ok pb31Ok.1 pb31Ok.2 mixed 100000 60).1 (by kernel_rfl) (by kernel_rfl)
noncomputable def pa50 : List AV := [pv4, (V false 1 [(S [99])])]
noncomputable def pr50 : AV := (I .i64 (2))
theorem pm50 : pr50.fresh = true ∧ CallPure PP 39 pa50 pr50 :=
  callPure_ran (n := 60) (lookN_ok pb4Ok.1 pb4Ok.2 mixed 100000 60).1 (by kernel_rfl) (by kernel_rfl)
noncomputable def pb32 : Look := lookOf [(114, true, sameE), (120, true, compareE), (39, false, memoM 60 [(pa50, pr50)])]
theorem pb32Ok : LookOk PP pb32 ∧ LookFr pb32 :=
  lookOf_cons (fun args => same_call (fn := (PP.funcs[114]?).getD default) (by kernel_rfl) (by kernel_rfl) (by kernel_rfl) (by kernel_rfl) (by kernel_rfl) args) (fun args => sameE_framed args) (lookOf_cons (fun args => compare_call (fn := (PP.funcs[120]?).getD default) (by kernel_rfl) (by kernel_rfl) (by kernel_rfl) (by kernel_rfl) (by kernel_rfl) args) (fun args => compareE_framed args) (lookOf_cons (fun args => memo_call (MemoOk.cons pm50.1 pm50.2 (MemoOk.nil)) args) (fun args => memo_framed 60 _ args) (lookOf_nil)))
noncomputable def pa51 : List AV := [pv4, (V false 1 [(S [99])])]
noncomputable def pr51 : AV := (T [(G [(I .u8 (0)), (N), (N)]), (I .i64 (2))])
theorem pm51 : pr51.fresh = true ∧ CallPure PP 20 pa51 pr51 :=
  callPure_ran (n := 60) (lookN_ok pb32Ok.1 pb32Ok.2 mixed 100000 60).1 (by kernel_rfl) (by kernel_rfl)
noncomputable def pb33 : Look := lookOf [(114, true, sameE), (120, true, compareE), (20, false, memoM 60 [(pa51, pr51)])]
theorem pb33Ok : LookOk PP pb33 ∧ LookFr pb33 :=
  lookOf_cons (fun args => same_call (fn := (PP.funcs[114]?).getD default) (by kernel_rfl) (by kernel_rfl) (by kernel_rfl) (by kernel_rfl) (by kernel_rfl) args) (fun args => sameE_framed args) (lookOf_cons (fun args => compare_call (fn := (PP.funcs[120]?).getD default) (by kernel_rfl) (by kernel_rfl) (by kernel_rfl) (by kernel_rfl) (by kernel_rfl) args) (fun args => compareE_framed args) (lookOf_cons (fun args => memo_call (MemoOk.cons pm51.1 pm51.2 (MemoOk.nil)) args) (fun args => memo_framed 60 _ args) (lookOf_nil)))
noncomputable def pa52 : List AV := [pv4, (V false 1 [(S [99])]), (I .u16 (1))]
noncomputable def pr52 : AV := (T [(G [(I .u8 (0)), (N), (N)]), (I .i64 (2))])
theorem pm52 : pr52.fresh = true ∧ CallPure PP 13 pa52 pr52 :=
  callPure_ran (n := 60) (lookN_ok pb33Ok.1 pb33Ok.2 mixed 100000 60).1 (by kernel_rfl) (by kernel_rfl)
noncomputable def pv20 : AV := (T [(G [(I .i64 (0)), (B false), (N), (N), (N)]), (I .i64 (2))])
noncomputable def pb34 : Look := lookOf [(114, true, sameE), (120, true, compareE), (13, false, memoM 60 [(pa52, pr52)])]
theorem pb34Ok : LookOk PP pb34 ∧ LookFr pb34 :=
  lookOf_cons (fun args => same_call (fn := (PP.funcs[114]?).getD default) (by kernel_rfl) (by kernel_rfl) (by kernel_rfl) (by kernel_rfl) (by kernel_rfl) args) (fun args => sameE_framed args) (lookOf_cons (fun args => compare_call (fn := (PP.funcs[120]?).getD default) (by kernel_rfl) (by kernel_rfl) (by kernel_rfl) (by kernel_rfl) (by kernel_rfl) args) (fun args => compareE_framed args) (lookOf_cons (fun args => memo_call (MemoOk.cons pm52.1 pm52.2 (MemoOk.nil)) args) (fun args => memo_framed 60 _ args) (lookOf_nil)))
noncomputable def pa53 : List AV := [pv4, (V false 1 [(S [99])]), (I .u16 (1))]
noncomputable def pr53 : AV := pv20
theorem pm53 : pr53.fresh = true ∧ CallPure PP 5 pa53 pr53 :=
  callPure_ran (n := 60) (lookN_ok pb34Ok.1 pb34Ok.2 mixed 100000 60).1 (by kernel_rfl) (by kernel_rfl)
noncomputable def pa54 : List AV := [pv4, (V false 1 [(S [110, 115]), (S [97])])]
noncomputable def pr54 : AV := (I .i64 (0))
theorem pm54 : pr54.fresh = true ∧ CallPure PP 39 pa54 pr54 :=
  callPure_ran (n := 60) (lookN_ok pb4Ok.1 pb4Ok.2 mixed 100000 60).1 (by kernel_rfl) (by kernel_rfl)
noncomputable def pa55 : List AV := [pv4, (V false 1 [(S [110, 115]), (S [97])])]
noncomputable def pr55 : AV := (B true)
theorem pm55 : pr55.fresh = true ∧ CallPure PP 42 pa55 pr55 :=
  callPure_ran (n := 60) (lookN_ok pb0Ok.1 pb0Ok.2 mixed 100000 60).1 (by kernel_rfl) (by kernel_rfl)
noncomputable def pb35 : Look := lookOf [(114, true, sameE), (120, true, compareE), (42, false, memoM 60 [(pa55, pr55)])]
theorem pb35Ok : LookOk PP pb35 ∧ LookFr pb35 :=
  lookOf_cons (fun args => same_call (fn := (PP.funcs[114]?).getD default) (by kernel_rfl) (by kernel_rfl) (by kernel_rfl) (by kernel_rfl) (by kernel_rfl) args) (fun args => sameE_framed args) (lookOf_cons (fun args => compare_call (fn := (PP.funcs[120]?).getD default) (by kernel_rfl) (by kernel_rfl) (by kernel_rfl) (by kernel_rfl) (by kernel_rfl) args) (fun args => compareE_framed args) (lookOf_cons (fun args => memo_call (MemoOk.cons pm55.1 pm55.2 (MemoOk.nil)) args) (fun args => memo_framed 60 _ args) (lookOf_nil)))
noncomputable def pa56 : List AV := [pv4, (V false 1 [(S [110, 115]), (S [97])])]
noncomputable def pr56 : AV := (V true 1 [(S [110, 115]), (S [97])])
theorem pm56 : pr56.fresh = true ∧ CallPure PP 41 pa56 pr56 :=
  callPure_ran (n := 60) (lookN_ok pb35Ok.1 pb35Ok.2 mixed 100000 60).1 (by kernel_rfl) (by kernel_rfl)
noncomputable def pv21 : AV := (T [(G [(I .u8 (1)), (V true 1 [(S [110, 115]), (S [97])]), (V true 1 [(S [110, 115]), (S [97])])]), (I .i64 (0))])
noncomputable def pb36 : Look := lookOf [(114, true, sameE), (120, true, compareE), (39, false, memoM 60 [(pa54, pr54)]), (41, false, memoM 60 [(pa56, pr56)])]
theorem pb36Ok : LookOk PP pb36 ∧ LookFr pb36 :=
  lookOf_cons (fun args => same_call (fn := (PP.funcs[114]?).getD default) (by kernel_rfl) (by kernel_rfl) (by kernel_rfl) (by kernel_rfl) (by kernel_rfl) args) (fun args => sameE_framed args) (lookOf_cons (fun args => compare_call (fn := (PP.funcs[120]?).getD default) (by kernel_rfl) (by kernel_rfl) (by kernel_rfl) (by kernel_rfl) (by kernel_rfl) args) (fun args => compareE_framed args) (lookOf_cons (fun args => memo_call (MemoOk.cons pm54.1 pm54.2 (MemoOk.nil)) args) (fun args => memo_framed 60 _ args) (lookOf_cons (fun args => memo_call (MemoOk.cons pm56.1 pm56.2 (MemoOk.nil)) args) (fun args => memo_framed 60 _ args) (lookOf_nil))))
noncomputable def pa57 : List AV := [pv4, (V false 1 [(S [110, 115]), (S [97])])]
noncomputable def pr57 : AV := pv21
theorem pm57 : pr57.fresh = true ∧ CallPure PP 20 pa57 pr57 :=
  callPure_ran (n := 60) (lookN_ok pb36Ok.1 pb36Ok.2 mixed 100000 60).1 (by kernel_rfl) (by kernel_rfl)
noncomputable def pv22 : AV := (T [(G [(I .i64 (0)), (B true), (V true 5 [(G [(V true 1 [(S [119, 119, 119]), (S [97])]), (I .u16 (5)), (I .u16 (1)), (I .u32 (60)), (V true 4 [(G [(V true 1 [(V true 1 [(S [110, 115]), (S [97])])]), (N), (N), (N)])])]), (G [(V true 1 [(S [110, 115]), (S [97])]), (I .u16 (1)), (I .u16 (1)), (I .u32 (60)), (V true 4 [(G [(N), (N), (N), (V true 1 [(I .u8 (10)), (I .u8 (0)), (I .u8 (0)), (I .u8 (1))])])])])]), (N), (N)]), (I .i64 (0))])
noncomputable def pb37 : Look := lookOf [(114, true, sameE), (120, true, compareE), (13, false, memoM 60 [(pa46, pr46)]), (20, false, memoM 60 [(pa9, pr9), (pa57, pr57)])]
theorem pb37Ok : LookOk PP pb37 ∧ LookFr pb37 :=
  lookOf_cons (fun args => same_call (fn := (PP.funcs[114]?).getD default) (by kernel_rfl) (by kernel_rfl) (by kernel_rfl) (by kernel_rfl) (by kernel_rfl) args) (fun args => sameE_framed args) (lookOf_cons (fun args => compare_call (fn := (PP.funcs[120]?).getD default) (by kernel_rfl) (by kernel_rfl) (by kernel_rfl) (by kernel_rfl) (by kernel_rfl) args) (fun args => compareE_framed args) (lookOf_cons (fun args => memo_call (MemoOk.cons pm46.1 pm46.2 (MemoOk.nil)) args) (fun args => memo_framed 60 _ args) (lookOf_cons (fun args => memo_call (MemoOk.cons pm9.1 pm9.2 (MemoOk.cons pm57.1 pm57.2 (MemoOk.nil))) args) (fun args => memo_framed 60 _ args) (lookOf_nil))))
noncomputable def pa58 : List AV := [pv4, (V false 1 [(S [119, 119, 119]), (S [97])]), (I .u16 (1))]
noncomputable def pr58 : AV := pv22
theorem pm58 : pr58.fresh = true ∧ CallPure PP 5 pa58 pr58 :=
  callPure_ran (n := 60) (lookN_ok pb37Ok.1 pb37Ok.2 mixed 100000 60).1 (by kernel_rfl) (by kernel_rfl)
noncomputable def pb38 : Look := lookOf [(114, true, sameE), (120, true, compareE), (4, false, memoM 60 [(pa5, pr5)]), (5, false, memoM 60 [(pa58, pr58)])]
theorem pb38Ok : LookOk PP pb38 ∧ LookFr pb38 :=
  lookOf_cons (fun args => same_call (fn := (PP.funcs[114]?).getD default) (by kernel_rfl) (by kernel_rfl) (by kernel_rfl) (by kernel_rfl) (by kernel_rfl) args) (fun args => sameE_framed args) (lookOf_cons (fun args => compare_call (fn := (PP.funcs[120]?).getD default) (by kernel_rfl) (by kernel_rfl) (by kernel_rfl) (by kernel_rfl) (by kernel_rfl) args) (fun args => compareE_framed args) (lookOf_cons (fun args => memo_call (MemoOk.cons pm5.1 pm5.2 (MemoOk.nil)) args) (fun args => memo_framed 60 _ args) (lookOf_cons (fun args => memo_call (MemoOk.cons pm58.1 pm58.2 (MemoOk.nil)) args) (fun args => memo_framed 60 _ args) (lookOf_nil))))
noncomputable def pa59 : List AV := []
noncomputable def pr59 : AV := (B true)
theorem pm59 : pr59.fresh = true ∧ CallPure PP 8 pa59 pr59 :=
  callPure_ran (n := 60) (lookN_ok pb38Ok.1 pb38Ok.2 mixed 100000 60).1 (by kernel_rfl) (by kernel_rfl)
noncomputable def base : Look := lookOf [(114, true, sameE), (120, true, compareE), (4, false, memoM 60 [(pa5, pr5)]), (5, false, memoM 60 [(pa11, pr11), (pa13, pr13), (pa17, pr17), (pa25, pr25), (pa27, pr27), (pa32, pr32), (pa40, pr40), (pa45, pr45), (pa49, pr49), (pa53, pr53)]), (6, false, memoM 60 [(pa47, pr47)]), (8, false, memoM 60 [(pa59, pr59)])]
theorem baseOk : LookOk PP base ∧ LookFr base :=
  lookOf_cons (fun args => same_call (fn := (PP.funcs[114]?).getD default) (by kernel_rfl) (by kernel_rfl) (by kernel_rfl) (by kernel_rfl) (by kernel_rfl) args) (fun args => sameE_framed args) (lookOf_cons (fun args => compare_call (fn := (PP.funcs[120]?).getD default) (by kernel_rfl) (by kernel_rfl) (by kernel_rfl) (by kernel_rfl) (by kernel_rfl) args) (fun args => compareE_framed args) (lookOf_cons (fun args => memo_call (MemoOk.cons pm5.1 pm5.2 (MemoOk.nil)) args) (fun args => memo_framed 60 _ args) (lookOf_cons (fun args => memo_call (MemoOk.cons pm11.1 pm11.2 (MemoOk.cons pm13.1 pm13.2 (MemoOk.cons pm17.1 pm17.2 (MemoOk.cons pm25.1 pm25.2 (MemoOk.cons pm27.1 pm27.2 (MemoOk.cons pm32.1 pm32.2 (MemoOk.cons pm40.1 pm40.2 (MemoOk.cons pm45.1 pm45.2 (MemoOk.cons pm49.1 pm49.2 (MemoOk.cons pm53.1 pm53.2 (MemoOk.nil))))))))))) args) (fun args => memo_framed 60 _ args) (lookOf_cons (fun args => memo_call (MemoOk.cons pm47.1 pm47.2 (MemoOk.nil)) args) (fun args => memo_framed 60 _ args) (lookOf_cons (fun args => memo_call (MemoOk.cons pm59.1 pm59.2 (MemoOk.nil)) args) (fun args => memo_framed 60 _ args) (lookOf_nil))))))
noncomputable def look : Look := lookN PP base 100000 60
theorem lookOk : LookOk PP look := (lookN_ok baseOk.1 baseOk.2 mixed 100000 60).1
noncomputable def okRun (r : Option (AV × St)) : Bool := match r with | some p => (match p.1 with | .sc v => (match v with | .bool b => b | _ => false) | _ => false) | none => false
noncomputable def unkA : AC Unit := aU (Tryz.f3.params.toList.map (shapeU PP))
noncomputable def runOf (f : Nat) : Option (AV × St) := match look f with | some p => p.2 (unkA.E ()) (stK []) | none => none
set_option maxRecDepth 1000000
theorem runs : okRun (runOf 3) = true := by kernel_rfl
theorem okRun_some {r : Option (AV × St)} (h : okRun r = true) : ∃ st, r = some (.sc (.bool true), st) := by
  unfold okRun at h
  split at h
  · rename_i p
    obtain ⟨a, st⟩ := p
    dsimp only at h
    split at h
    · split at h
      · subst h; exact ⟨st, rfl⟩
      · cases h
    · cases h
  · cases h
theorem law_pure : CallPure PP 3 (unkA.E ()) (.sc (.bool true)) := by
  obtain ⟨st, h⟩ := okRun_some runs
  unfold runOf at h
  cases hp : look 3 with
  | none => rw [hp] at h; cases h
  | some p =>
    rw [hp] at h
    exact callPure_of_run lookOk hp (by kernel_rfl) (r1 codBool) true true h rfl

theorem own : ownKnob PP.godebug = none := by kernel_rfl
theorem undBool : PP.underlying 4 = some .bool := by kernel_rfl
theorem lifted (os : Os) (started : os.Started) (H : Type) (enc : TypeId × Value → H) :
    ReturnsInHanded {} Tryz.checked os 3 .any (Rows.answerKnownSpec.pre6 enc Tryz.prog Tryz.f3 Rows.answerKnownRow.domain false) (Rows.answerKnownSpec.post enc Tryz.prog Tryz.f3 false true false false) := by
  refine returnsInHanded_of_change (C := Tryz.checked) own started (by kernel_rfl) Tryz.func3
    (ChangeSpec.witness6 (enc := enc) (C := Tryz.checked) false ⟨#[], Tryz.f3.params.map fun t => ((PP.info? t).bind (·.zero)).getD undef, []⟩ 8 (by kernel_rfl) (by kernel_rfl) (by kernel_rfl) (by kernel_rfl)) ?_
  intro W base args ds gs before hval hW _ _
  exact law_post (by kernel_rfl) (by kernel_rfl) (slicesFull_at (by kernel_rfl)) (tb := 4) (by kernel_rfl) rfl (by kernel_rfl) undBool (typesIn_at (by kernel_rfl))
    (fun H ds hl => by match ds, (show ds.length = 0 from hl) with | [], _ => rfl) (A := unkA) (rdA_unk _) (N := none) (fun _ _ => law_pure) enc W base args ds gs before hval hW (fun n hn => by cases hn)
theorem over : Rows.answerKnownRow.holds Tryz.pinned (OpenSpec.ofChange Rows.answerKnownSpec) :=
  OpenClaim.holds_of_wide 3 Tryz.f3 rfl rfl rfl rfl rfl rfl rfl ⟨rfl, rfl, rfl, rfl, rfl⟩ rfl rfl rfl rfl rfl (by kernel_rfl) Tryz.func3 (by kernel_rfl)
    (of_decide_eq_true (by kernel_rfl)) (by unfold Func.isWrapper; first | (rw [if_pos (by decide +kernel)]; kernel_rfl) | (rw [if_neg (by decide +kernel)]; exact ⟨rfl, rfl⟩))
    (fun os started H enc _ => lifted os started H enc)
theorem proved : Rows.AnswerKnownSaid := over

end Go.Proofs.YtkjdgfmphjmhmacGreat.answerKnown
