/- Proved: the law LookupKnown returns true, whatever it is given: its run on abstract values, of which the arguments are unknown, is reckoned by the kernel. No conditions. -/
import Derived.Test.YtkjdgfmphjmhmaeGreatWxU
import Derived.Test.YtkjdgfmphjmhmaeGreatWxV
import Derived.Test.YtkjdgfmphjmhmaeGreatRows
import Derived.JoinedCond
import Derived.KernelRfl
set_option linter.unusedVariables false
namespace Go.Proofs.YtkjdgfmphjmhmaeGreat.lookupKnown
open Go.Vm Go.Vm.Lit Go.ChangeShapes Go.WideShapes Go.ChangeAt

noncomputable abbrev PP := Tryz.prog
theorem mixed : PP.follows .mixedOrders = true := by kernel_rfl
set_option maxRecDepth 1000000
noncomputable def pv0 : AV := (G [(V false 1 [(V false 1 [(S [110, 115]), (S [114, 111, 111, 116])]), (V false 1 [(S [110, 115]), (S [114, 111, 111, 116])])]), (V false 1 [(I .u32 (1)), (I .u32 (2)), (I .u32 (3)), (I .u32 (4)), (I .u32 (30))]), (N), (N)])
noncomputable def pb0 : Look := lookOf [(151, true, sameE), (148, true, compareE)]
theorem pb0Ok : LookOk PP pb0 ∧ LookFr pb0 :=
  lookOf_cons (fun args => same_call (fn := (PP.funcs[151]?).getD default) (by kernel_rfl) (by kernel_rfl) (by kernel_rfl) (by kernel_rfl) (by kernel_rfl) args) (fun args => sameE_framed args) (lookOf_cons (fun args => compare_call (fn := (PP.funcs[148]?).getD default) (by kernel_rfl) (by kernel_rfl) (by kernel_rfl) (by kernel_rfl) (by kernel_rfl) args) (fun args => compareE_framed args) (lookOf_nil))
noncomputable def pa0 : List AV := [(I .u16 (6)), (N), pv0]
noncomputable def pr0 : AV := (B false)
theorem pm0 : pr0.fresh = true ∧ CallPure PP 57 pa0 pr0 :=
  callPure_ran (n := 60) (lookN_ok pb0Ok.1 pb0Ok.2 mixed 100000 60).1 (by kernel_rfl) (by kernel_rfl)
noncomputable def pv1 : AV := (G [(V false 1 [(V false 1 [(S [110, 115]), (S [114, 111, 111, 116])])]), (N), (N), (N)])
noncomputable def pa1 : List AV := [(I .u16 (2)), (N), pv1]
noncomputable def pr1 : AV := (B false)
theorem pm1 : pr1.fresh = true ∧ CallPure PP 57 pa1 pr1 :=
  callPure_ran (n := 60) (lookN_ok pb0Ok.1 pb0Ok.2 mixed 100000 60).1 (by kernel_rfl) (by kernel_rfl)
noncomputable def pv2 : AV := (G [(N), (N), (N), (V false 1 [(I .u8 (10)), (I .u8 (0)), (I .u8 (0)), (I .u8 (1))])])
noncomputable def pa2 : List AV := [(I .u16 (1)), (N), pv2]
noncomputable def pr2 : AV := (B false)
theorem pm2 : pr2.fresh = true ∧ CallPure PP 57 pa2 pr2 :=
  callPure_ran (n := 60) (lookN_ok pb0Ok.1 pb0Ok.2 mixed 100000 60).1 (by kernel_rfl) (by kernel_rfl)
noncomputable def pv3 : AV := (G [(V false 1 [(V false 1 [(S [110, 115]), (S [97])])]), (N), (N), (N)])
noncomputable def pa3 : List AV := [(I .u16 (2)), (N), pv3]
noncomputable def pr3 : AV := (B false)
theorem pm3 : pr3.fresh = true ∧ CallPure PP 57 pa3 pr3 :=
  callPure_ran (n := 60) (lookN_ok pb0Ok.1 pb0Ok.2 mixed 100000 60).1 (by kernel_rfl) (by kernel_rfl)
noncomputable def pv4 : AV := (G [(N), (N), (N), (V false 1 [(I .u8 (10)), (I .u8 (0)), (I .u8 (0)), (I .u8 (2))])])
noncomputable def pa4 : List AV := [(I .u16 (1)), (N), pv4]
noncomputable def pr4 : AV := (B false)
theorem pm4 : pr4.fresh = true ∧ CallPure PP 57 pa4 pr4 :=
  callPure_ran (n := 60) (lookN_ok pb0Ok.1 pb0Ok.2 mixed 100000 60).1 (by kernel_rfl) (by kernel_rfl)
noncomputable def pv5 : AV := (V false 8 [(G [(N), (I .u16 (6)), (I .u16 (1)), (I .u32 (60)), (V false 1 [(V false 1 [(S [110, 115]), (S [114, 111, 111, 116])]), (V false 1 [(S [110, 115]), (S [114, 111, 111, 116])])]), (V false 1 [(I .u32 (1)), (I .u32 (2)), (I .u32 (3)), (I .u32 (4)), (I .u32 (30))]), (N), (N)]), (G [(N), (I .u16 (2)), (I .u16 (1)), (I .u32 (60)), (V false 1 [(V false 1 [(S [110, 115]), (S [114, 111, 111, 116])])]), (N), (N), (N)]), (G [(V false 1 [(S [110, 115]), (S [114, 111, 111, 116])]), (I .u16 (1)), (I .u16 (1)), (I .u32 (60)), (N), (N), (N), (V false 1 [(I .u8 (10)), (I .u8 (0)), (I .u8 (0)), (I .u8 (1))])]), (G [(V false 1 [(S [97])]), (I .u16 (2)), (I .u16 (1)), (I .u32 (60)), (V false 1 [(V false 1 [(S [110, 115]), (S [97])])]), (N), (N), (N)]), (G [(V false 1 [(S [110, 115]), (S [97])]), (I .u16 (1)), (I .u16 (1)), (I .u32 (60)), (N), (N), (N), (V false 1 [(I .u8 (10)), (I .u8 (0)), (I .u8 (0)), (I .u8 (2))])])])
noncomputable def pv6 : AV := (T [(V true 5 [(G [(V true 1 []), (I .u16 (6)), (I .u16 (1)), (I .u32 (60)), (V true 4 [(G [(V true 1 [(V true 1 [(S [110, 115]), (S [114, 111, 111, 116])]), (V true 1 [(S [110, 115]), (S [114, 111, 111, 116])])]), (V true 1 [(I .u32 (1)), (I .u32 (2)), (I .u32 (3)), (I .u32 (4)), (I .u32 (30))]), (N), (N)])])]), (G [(V true 1 []), (I .u16 (2)), (I .u16 (1)), (I .u32 (60)), (V true 4 [(G [(V true 1 [(V true 1 [(S [110, 115]), (S [114, 111, 111, 116])])]), (N), (N), (N)])])]), (G [(V true 1 [(S [110, 115]), (S [114, 111, 111, 116])]), (I .u16 (1)), (I .u16 (1)), (I .u32 (60)), (V true 4 [(G [(N), (N), (N), (V true 1 [(I .u8 (10)), (I .u8 (0)), (I .u8 (0)), (I .u8 (1))])])])]), (G [(V true 1 [(S [97])]), (I .u16 (2)), (I .u16 (1)), (I .u32 (60)), (V true 4 [(G [(V true 1 [(V true 1 [(S [110, 115]), (S [97])])]), (N), (N), (N)])])]), (G [(V true 1 [(S [110, 115]), (S [97])]), (I .u16 (1)), (I .u16 (1)), (I .u32 (60)), (V true 4 [(G [(N), (N), (N), (V true 1 [(I .u8 (10)), (I .u8 (0)), (I .u8 (0)), (I .u8 (2))])])])])]), (I .i64 (0))])
noncomputable def pb1 : Look := lookOf [(151, true, sameE), (148, true, compareE), (57, false, memoM 60 [(pa0, pr0), (pa1, pr1), (pa2, pr2), (pa3, pr3), (pa4, pr4)])]
theorem pb1Ok : LookOk PP pb1 ∧ LookFr pb1 :=
  lookOf_cons (fun args => same_call (fn := (PP.funcs[151]?).getD default) (by kernel_rfl) (by kernel_rfl) (by kernel_rfl) (by kernel_rfl) (by kernel_rfl) args) (fun args => sameE_framed args) (lookOf_cons (fun args => compare_call (fn := (PP.funcs[148]?).getD default) (by kernel_rfl) (by kernel_rfl) (by kernel_rfl) (by kernel_rfl) (by kernel_rfl) args) (fun args => compareE_framed args) (lookOf_cons (fun args => memo_call (MemoOk.cons pm0.1 pm0.2 (MemoOk.cons pm1.1 pm1.2 (MemoOk.cons pm2.1 pm2.2 (MemoOk.cons pm3.1 pm3.2 (MemoOk.cons pm4.1 pm4.2 (MemoOk.nil)))))) args) (fun args => memo_framed 60 _ args) (lookOf_nil)))
noncomputable def pa5 : List AV := [pv5]
noncomputable def pr5 : AV := pv6
theorem pm5 : pr5.fresh = true ∧ CallPure PP 26 pa5 pr5 :=
  callPure_ran (n := 60) (lookN_ok pb1Ok.1 pb1Ok.2 mixed 100000 60).1 (by kernel_rfl) (by kernel_rfl)
noncomputable def pv7 : AV := (V false 5 [(G [(V false 1 []), (I .u16 (6)), (I .u16 (1)), (I .u32 (60)), (V false 4 [(G [(V false 1 [(V false 1 [(S [110, 115]), (S [114, 111, 111, 116])]), (V false 1 [(S [110, 115]), (S [114, 111, 111, 116])])]), (V false 1 [(I .u32 (1)), (I .u32 (2)), (I .u32 (3)), (I .u32 (4)), (I .u32 (30))]), (N), (N)])])]), (G [(V false 1 []), (I .u16 (2)), (I .u16 (1)), (I .u32 (60)), (V false 4 [(G [(V false 1 [(V false 1 [(S [110, 115]), (S [114, 111, 111, 116])])]), (N), (N), (N)])])]), (G [(V false 1 [(S [110, 115]), (S [114, 111, 111, 116])]), (I .u16 (1)), (I .u16 (1)), (I .u32 (60)), (V false 4 [(G [(N), (N), (N), (V false 1 [(I .u8 (10)), (I .u8 (0)), (I .u8 (0)), (I .u8 (1))])])])]), (G [(V false 1 [(S [97])]), (I .u16 (2)), (I .u16 (1)), (I .u32 (60)), (V false 4 [(G [(V false 1 [(V false 1 [(S [110, 115]), (S [97])])]), (N), (N), (N)])])]), (G [(V false 1 [(S [110, 115]), (S [97])]), (I .u16 (1)), (I .u16 (1)), (I .u32 (60)), (V false 4 [(G [(N), (N), (N), (V false 1 [(I .u8 (10)), (I .u8 (0)), (I .u8 (0)), (I .u8 (2))])])])])])
noncomputable def pv8 : AV := (V true 5 [(G [(V true 1 []), (I .u16 (2)), (I .u16 (1)), (I .u32 (60)), (V true 4 [(G [(V true 1 [(V true 1 [(S [110, 115]), (S [114, 111, 111, 116])])]), (N), (N), (N)])])]), (G [(V true 1 []), (I .u16 (6)), (I .u16 (1)), (I .u32 (60)), (V true 4 [(G [(V true 1 [(V true 1 [(S [110, 115]), (S [114, 111, 111, 116])]), (V true 1 [(S [110, 115]), (S [114, 111, 111, 116])])]), (V true 1 [(I .u32 (1)), (I .u32 (2)), (I .u32 (3)), (I .u32 (4)), (I .u32 (30))]), (N), (N)])])]), (G [(V true 1 [(S [97])]), (I .u16 (2)), (I .u16 (1)), (I .u32 (60)), (V true 4 [(G [(V true 1 [(V true 1 [(S [110, 115]), (S [97])])]), (N), (N), (N)])])]), (G [(V true 1 [(S [110, 115]), (S [97])]), (I .u16 (1)), (I .u16 (1)), (I .u32 (60)), (V true 4 [(G [(N), (N), (N), (V true 1 [(I .u8 (10)), (I .u8 (0)), (I .u8 (0)), (I .u8 (2))])])])]), (G [(V true 1 [(S [110, 115]), (S [114, 111, 111, 116])]), (I .u16 (1)), (I .u16 (1)), (I .u32 (60)), (V true 4 [(G [(N), (N), (N), (V true 1 [(I .u8 (10)), (I .u8 (0)), (I .u8 (0)), (I .u8 (1))])])])])])
noncomputable def pa6 : List AV := [pv7]
noncomputable def pr6 : AV := pv8
theorem pm6 : pr6.fresh = true ∧ CallPure PP 58 pa6 pr6 :=
  callPure_ran (n := 60) (lookN_ok pb0Ok.1 pb0Ok.2 mixed 100000 60).1 (by kernel_rfl) (by kernel_rfl)
noncomputable def pa7 : List AV := [(I .u16 (2)), (V false 4 []), pv1]
noncomputable def pr7 : AV := (B false)
theorem pm7 : pr7.fresh = true ∧ CallPure PP 57 pa7 pr7 :=
  callPure_ran (n := 60) (lookN_ok pb0Ok.1 pb0Ok.2 mixed 100000 60).1 (by kernel_rfl) (by kernel_rfl)
noncomputable def pa8 : List AV := [(I .u16 (6)), (V false 4 []), pv0]
noncomputable def pr8 : AV := (B false)
theorem pm8 : pr8.fresh = true ∧ CallPure PP 57 pa8 pr8 :=
  callPure_ran (n := 60) (lookN_ok pb0Ok.1 pb0Ok.2 mixed 100000 60).1 (by kernel_rfl) (by kernel_rfl)
noncomputable def pa9 : List AV := [(I .u16 (2)), (V false 4 []), pv3]
noncomputable def pr9 : AV := (B false)
theorem pm9 : pr9.fresh = true ∧ CallPure PP 57 pa9 pr9 :=
  callPure_ran (n := 60) (lookN_ok pb0Ok.1 pb0Ok.2 mixed 100000 60).1 (by kernel_rfl) (by kernel_rfl)
noncomputable def pa10 : List AV := [(I .u16 (1)), (V false 4 []), pv4]
noncomputable def pr10 : AV := (B false)
theorem pm10 : pr10.fresh = true ∧ CallPure PP 57 pa10 pr10 :=
  callPure_ran (n := 60) (lookN_ok pb0Ok.1 pb0Ok.2 mixed 100000 60).1 (by kernel_rfl) (by kernel_rfl)
noncomputable def pa11 : List AV := [(I .u16 (1)), (V false 4 []), pv2]
noncomputable def pr11 : AV := (B false)
theorem pm11 : pr11.fresh = true ∧ CallPure PP 57 pa11 pr11 :=
  callPure_ran (n := 60) (lookN_ok pb0Ok.1 pb0Ok.2 mixed 100000 60).1 (by kernel_rfl) (by kernel_rfl)
noncomputable def pv9 : AV := (G [(V false 1 []), (V false 5 [(G [(V false 1 []), (I .u16 (2)), (I .u16 (1)), (I .u32 (60)), (V false 4 [(G [(V false 1 [(V false 1 [(S [110, 115]), (S [114, 111, 111, 116])])]), (N), (N), (N)])])]), (G [(V false 1 []), (I .u16 (6)), (I .u16 (1)), (I .u32 (60)), (V false 4 [(G [(V false 1 [(V false 1 [(S [110, 115]), (S [114, 111, 111, 116])]), (V false 1 [(S [110, 115]), (S [114, 111, 111, 116])])]), (V false 1 [(I .u32 (1)), (I .u32 (2)), (I .u32 (3)), (I .u32 (4)), (I .u32 (30))]), (N), (N)])])]), (G [(V false 1 [(S [97])]), (I .u16 (2)), (I .u16 (1)), (I .u32 (60)), (V false 4 [(G [(V false 1 [(V false 1 [(S [110, 115]), (S [97])])]), (N), (N), (N)])])]), (G [(V false 1 [(S [110, 115]), (S [97])]), (I .u16 (1)), (I .u16 (1)), (I .u32 (60)), (V false 4 [(G [(N), (N), (N), (V false 1 [(I .u8 (10)), (I .u8 (0)), (I .u8 (0)), (I .u8 (2))])])])]), (G [(V false 1 [(S [110, 115]), (S [114, 111, 111, 116])]), (I .u16 (1)), (I .u16 (1)), (I .u32 (60)), (V false 4 [(G [(N), (N), (N), (V false 1 [(I .u8 (10)), (I .u8 (0)), (I .u8 (0)), (I .u8 (1))])])])])])])
noncomputable def pb2 : Look := lookOf [(151, true, sameE), (148, true, compareE), (57, false, memoM 60 [(pa7, pr7), (pa8, pr8), (pa9, pr9), (pa10, pr10), (pa11, pr11)])]
theorem pb2Ok : LookOk PP pb2 ∧ LookFr pb2 :=
  lookOf_cons (fun args => same_call (fn := (PP.funcs[151]?).getD default) (by kernel_rfl) (by kernel_rfl) (by kernel_rfl) (by kernel_rfl) (by kernel_rfl) args) (fun args => sameE_framed args) (lookOf_cons (fun args => compare_call (fn := (PP.funcs[148]?).getD default) (by kernel_rfl) (by kernel_rfl) (by kernel_rfl) (by kernel_rfl) (by kernel_rfl) args) (fun args => compareE_framed args) (lookOf_cons (fun args => memo_call (MemoOk.cons pm7.1 pm7.2 (MemoOk.cons pm8.1 pm8.2 (MemoOk.cons pm9.1 pm9.2 (MemoOk.cons pm10.1 pm10.2 (MemoOk.cons pm11.1 pm11.2 (MemoOk.nil)))))) args) (fun args => memo_framed 60 _ args) (lookOf_nil)))
noncomputable def pa12 : List AV := [pv9]
noncomputable def pr12 : AV := (I .i64 (0))
theorem pm12 : pr12.fresh = true ∧ CallPure PP 24 pa12 pr12 :=
  callPure_ran (n := 60) (lookN_ok pb2Ok.1 pb2Ok.2 mixed 100000 60).1 (by kernel_rfl) (by kernel_rfl)
noncomputable def pv10 : AV := (T [(G [(V true 1 []), (V true 5 [(G [(V true 1 []), (I .u16 (2)), (I .u16 (1)), (I .u32 (60)), (V true 4 [(G [(V true 1 [(V true 1 [(S [110, 115]), (S [114, 111, 111, 116])])]), (N), (N), (N)])])]), (G [(V true 1 []), (I .u16 (6)), (I .u16 (1)), (I .u32 (60)), (V true 4 [(G [(V true 1 [(V true 1 [(S [110, 115]), (S [114, 111, 111, 116])]), (V true 1 [(S [110, 115]), (S [114, 111, 111, 116])])]), (V true 1 [(I .u32 (1)), (I .u32 (2)), (I .u32 (3)), (I .u32 (4)), (I .u32 (30))]), (N), (N)])])]), (G [(V true 1 [(S [97])]), (I .u16 (2)), (I .u16 (1)), (I .u32 (60)), (V true 4 [(G [(V true 1 [(V true 1 [(S [110, 115]), (S [97])])]), (N), (N), (N)])])]), (G [(V true 1 [(S [110, 115]), (S [97])]), (I .u16 (1)), (I .u16 (1)), (I .u32 (60)), (V true 4 [(G [(N), (N), (N), (V true 1 [(I .u8 (10)), (I .u8 (0)), (I .u8 (0)), (I .u8 (2))])])])]), (G [(V true 1 [(S [110, 115]), (S [114, 111, 111, 116])]), (I .u16 (1)), (I .u16 (1)), (I .u32 (60)), (V true 4 [(G [(N), (N), (N), (V true 1 [(I .u8 (10)), (I .u8 (0)), (I .u8 (0)), (I .u8 (1))])])])])])]), (I .i64 (0))])
noncomputable def pb3 : Look := lookOf [(151, true, sameE), (148, true, compareE), (58, false, memoM 60 [(pa6, pr6)]), (24, false, memoM 60 [(pa12, pr12)])]
theorem pb3Ok : LookOk PP pb3 ∧ LookFr pb3 :=
  lookOf_cons (fun args => same_call (fn := (PP.funcs[151]?).getD default) (by kernel_rfl) (by kernel_rfl) (by kernel_rfl) (by kernel_rfl) (by kernel_rfl) args) (fun args => sameE_framed args) (lookOf_cons (fun args => compare_call (fn := (PP.funcs[148]?).getD default) (by kernel_rfl) (by kernel_rfl) (by kernel_rfl) (by kernel_rfl) (by kernel_rfl) args) (fun args => compareE_framed args) (lookOf_cons (fun args => memo_call (MemoOk.cons pm6.1 pm6.2 (MemoOk.nil)) args) (fun args => memo_framed 60 _ args) (lookOf_cons (fun args => memo_call (MemoOk.cons pm12.1 pm12.2 (MemoOk.nil)) args) (fun args => memo_framed 60 _ args) (lookOf_nil))))
noncomputable def pa13 : List AV := [(N), pv7]
noncomputable def pr13 : AV := pv10
theorem pm13 : pr13.fresh = true ∧ CallPure PP 27 pa13 pr13 :=
  callPure_ran (n := 60) (lookN_ok pb3Ok.1 pb3Ok.2 mixed 100000 60).1 (by kernel_rfl) (by kernel_rfl)
noncomputable def pb4 : Look := lookOf [(151, true, sameE), (148, true, compareE), (26, false, memoM 60 [(pa5, pr5)]), (27, false, memoM 60 [(pa13, pr13)])]
theorem pb4Ok : LookOk PP pb4 ∧ LookFr pb4 :=
  lookOf_cons (fun args => same_call (fn := (PP.funcs[151]?).getD default) (by kernel_rfl) (by kernel_rfl) (by kernel_rfl) (by kernel_rfl) (by kernel_rfl) args) (fun args => sameE_framed args) (lookOf_cons (fun args => compare_call (fn := (PP.funcs[148]?).getD default) (by kernel_rfl) (by kernel_rfl) (by kernel_rfl) (by kernel_rfl) (by kernel_rfl) args) (fun args => compareE_framed args) (lookOf_cons (fun args => memo_call (MemoOk.cons pm5.1 pm5.2 (MemoOk.nil)) args) (fun args => memo_framed 60 _ args) (lookOf_cons (fun args => memo_call (MemoOk.cons pm13.1 pm13.2 (MemoOk.nil)) args) (fun args => memo_framed 60 _ args) (lookOf_nil))))
noncomputable def pa14 : List AV := [(N), pv5]
noncomputable def pr14 : AV := pv10
theorem pm14 : pr14.fresh = true ∧ CallPure PP 13 pa14 pr14 :=
  callPure_ran (n := 60) (lookN_ok pb4Ok.1 pb4Ok.2 mixed 100000 60).1 (by kernel_rfl) (by kernel_rfl)
noncomputable def pv11 : AV := (V false 8 [(G [(V false 1 [(S [97])]), (I .u16 (2)), (I .u16 (1)), (I .u32 (60)), (V false 1 [(V false 1 [(S [110, 115]), (S [97])])]), (N), (N), (N)]), (G [(V false 1 [(S [110, 115]), (S [97])]), (I .u16 (1)), (I .u16 (1)), (I .u32 (60)), (N), (N), (N), (V false 1 [(I .u8 (10)), (I .u8 (0)), (I .u8 (0)), (I .u8 (2))])])])
noncomputable def pv12 : AV := (G [(V true 1 []), (V true 5 [(G [(V true 1 []), (I .u16 (2)), (I .u16 (1)), (I .u32 (60)), (V true 4 [(G [(V true 1 [(V true 1 [(S [110, 115]), (S [114, 111, 111, 116])])]), (N), (N), (N)])])]), (G [(V true 1 []), (I .u16 (6)), (I .u16 (1)), (I .u32 (60)), (V true 4 [(G [(V true 1 [(V true 1 [(S [110, 115]), (S [114, 111, 111, 116])]), (V true 1 [(S [110, 115]), (S [114, 111, 111, 116])])]), (V true 1 [(I .u32 (1)), (I .u32 (2)), (I .u32 (3)), (I .u32 (4)), (I .u32 (30))]), (N), (N)])])]), (G [(V true 1 [(S [97])]), (I .u16 (2)), (I .u16 (1)), (I .u32 (60)), (V true 4 [(G [(V true 1 [(V true 1 [(S [110, 115]), (S [97])])]), (N), (N), (N)])])]), (G [(V true 1 [(S [110, 115]), (S [97])]), (I .u16 (1)), (I .u16 (1)), (I .u32 (60)), (V true 4 [(G [(N), (N), (N), (V true 1 [(I .u8 (10)), (I .u8 (0)), (I .u8 (0)), (I .u8 (2))])])])]), (G [(V true 1 [(S [110, 115]), (S [114, 111, 111, 116])]), (I .u16 (1)), (I .u16 (1)), (I .u32 (60)), (V true 4 [(G [(N), (N), (N), (V true 1 [(I .u8 (10)), (I .u8 (0)), (I .u8 (0)), (I .u8 (1))])])])])])])
noncomputable def pb5 : Look := lookOf [(151, true, sameE), (148, true, compareE), (13, false, memoM 60 [(pa14, pr14)])]
theorem pb5Ok : LookOk PP pb5 ∧ LookFr pb5 :=
  lookOf_cons (fun args => same_call (fn := (PP.funcs[151]?).getD default) (by kernel_rfl) (by kernel_rfl) (by kernel_rfl) (by kernel_rfl) (by kernel_rfl) args) (fun args => sameE_framed args) (lookOf_cons (fun args => compare_call (fn := (PP.funcs[148]?).getD default) (by kernel_rfl) (by kernel_rfl) (by kernel_rfl) (by kernel_rfl) (by kernel_rfl) args) (fun args => compareE_framed args) (lookOf_cons (fun args => memo_call (MemoOk.cons pm14.1 pm14.2 (MemoOk.nil)) args) (fun args => memo_framed 60 _ args) (lookOf_nil)))
noncomputable def pa15 : List AV := [(N), (V false 1 [(S [110, 115]), (S [114, 111, 111, 116])]), (I .u8 (1)), pv11]
noncomputable def pr15 : AV := pv12
theorem pm15 : pr15.fresh = true ∧ CallPure PP 23 pa15 pr15 :=
  callPure_ran (n := 60) (lookN_ok pb5Ok.1 pb5Ok.2 mixed 100000 60).1 (by kernel_rfl) (by kernel_rfl)
noncomputable def pv13 : AV := (G [(V false 1 [(V false 1 [(S [110, 115]), (S [97])]), (V false 1 [(S [110, 115]), (S [97])])]), (V false 1 [(I .u32 (1)), (I .u32 (2)), (I .u32 (3)), (I .u32 (4)), (I .u32 (30))]), (N), (N)])
noncomputable def pa16 : List AV := [(I .u16 (6)), (N), pv13]
noncomputable def pr16 : AV := (B false)
theorem pm16 : pr16.fresh = true ∧ CallPure PP 57 pa16 pr16 :=
  callPure_ran (n := 60) (lookN_ok pb0Ok.1 pb0Ok.2 mixed 100000 60).1 (by kernel_rfl) (by kernel_rfl)
noncomputable def pv14 : AV := (V false 8 [(G [(V false 1 [(S [97])]), (I .u16 (6)), (I .u16 (1)), (I .u32 (60)), (V false 1 [(V false 1 [(S [110, 115]), (S [97])]), (V false 1 [(S [110, 115]), (S [97])])]), (V false 1 [(I .u32 (1)), (I .u32 (2)), (I .u32 (3)), (I .u32 (4)), (I .u32 (30))]), (N), (N)]), (G [(V false 1 [(S [97])]), (I .u16 (2)), (I .u16 (1)), (I .u32 (60)), (V false 1 [(V false 1 [(S [110, 115]), (S [97])])]), (N), (N), (N)]), (G [(V false 1 [(S [110, 115]), (S [97])]), (I .u16 (1)), (I .u16 (1)), (I .u32 (60)), (N), (N), (N), (V false 1 [(I .u8 (10)), (I .u8 (0)), (I .u8 (0)), (I .u8 (2))])])])
noncomputable def pv15 : AV := (T [(V true 5 [(G [(V true 1 [(S [97])]), (I .u16 (6)), (I .u16 (1)), (I .u32 (60)), (V true 4 [(G [(V true 1 [(V true 1 [(S [110, 115]), (S [97])]), (V true 1 [(S [110, 115]), (S [97])])]), (V true 1 [(I .u32 (1)), (I .u32 (2)), (I .u32 (3)), (I .u32 (4)), (I .u32 (30))]), (N), (N)])])]), (G [(V true 1 [(S [97])]), (I .u16 (2)), (I .u16 (1)), (I .u32 (60)), (V true 4 [(G [(V true 1 [(V true 1 [(S [110, 115]), (S [97])])]), (N), (N), (N)])])]), (G [(V true 1 [(S [110, 115]), (S [97])]), (I .u16 (1)), (I .u16 (1)), (I .u32 (60)), (V true 4 [(G [(N), (N), (N), (V true 1 [(I .u8 (10)), (I .u8 (0)), (I .u8 (0)), (I .u8 (2))])])])])]), (I .i64 (0))])
noncomputable def pb6 : Look := lookOf [(151, true, sameE), (148, true, compareE), (57, false, memoM 60 [(pa16, pr16), (pa3, pr3), (pa4, pr4)])]
theorem pb6Ok : LookOk PP pb6 ∧ LookFr pb6 :=
  lookOf_cons (fun args => same_call (fn := (PP.funcs[151]?).getD default) (by kernel_rfl) (by kernel_rfl) (by kernel_rfl) (by kernel_rfl) (by kernel_rfl) args) (fun args => sameE_framed args) (lookOf_cons (fun args => compare_call (fn := (PP.funcs[148]?).getD default) (by kernel_rfl) (by kernel_rfl) (by kernel_rfl) (by kernel_rfl) (by kernel_rfl) args) (fun args => compareE_framed args) (lookOf_cons (fun args => memo_call (MemoOk.cons pm16.1 pm16.2 (MemoOk.cons pm3.1 pm3.2 (MemoOk.cons pm4.1 pm4.2 (MemoOk.nil)))) args) (fun args => memo_framed 60 _ args) (lookOf_nil)))
noncomputable def pa17 : List AV := [pv14]
noncomputable def pr17 : AV := pv15
theorem pm17 : pr17.fresh = true ∧ CallPure PP 26 pa17 pr17 :=
  callPure_ran (n := 60) (lookN_ok pb6Ok.1 pb6Ok.2 mixed 100000 60).1 (by kernel_rfl) (by kernel_rfl)
noncomputable def pv16 : AV := (V false 5 [(G [(V false 1 [(S [97])]), (I .u16 (6)), (I .u16 (1)), (I .u32 (60)), (V false 4 [(G [(V false 1 [(V false 1 [(S [110, 115]), (S [97])]), (V false 1 [(S [110, 115]), (S [97])])]), (V false 1 [(I .u32 (1)), (I .u32 (2)), (I .u32 (3)), (I .u32 (4)), (I .u32 (30))]), (N), (N)])])]), (G [(V false 1 [(S [97])]), (I .u16 (2)), (I .u16 (1)), (I .u32 (60)), (V false 4 [(G [(V false 1 [(V false 1 [(S [110, 115]), (S [97])])]), (N), (N), (N)])])]), (G [(V false 1 [(S [110, 115]), (S [97])]), (I .u16 (1)), (I .u16 (1)), (I .u32 (60)), (V false 4 [(G [(N), (N), (N), (V false 1 [(I .u8 (10)), (I .u8 (0)), (I .u8 (0)), (I .u8 (2))])])])])])
noncomputable def pv17 : AV := (V true 5 [(G [(V true 1 [(S [97])]), (I .u16 (2)), (I .u16 (1)), (I .u32 (60)), (V true 4 [(G [(V true 1 [(V true 1 [(S [110, 115]), (S [97])])]), (N), (N), (N)])])]), (G [(V true 1 [(S [97])]), (I .u16 (6)), (I .u16 (1)), (I .u32 (60)), (V true 4 [(G [(V true 1 [(V true 1 [(S [110, 115]), (S [97])]), (V true 1 [(S [110, 115]), (S [97])])]), (V true 1 [(I .u32 (1)), (I .u32 (2)), (I .u32 (3)), (I .u32 (4)), (I .u32 (30))]), (N), (N)])])]), (G [(V true 1 [(S [110, 115]), (S [97])]), (I .u16 (1)), (I .u16 (1)), (I .u32 (60)), (V true 4 [(G [(N), (N), (N), (V true 1 [(I .u8 (10)), (I .u8 (0)), (I .u8 (0)), (I .u8 (2))])])])])])
noncomputable def pa18 : List AV := [pv16]
noncomputable def pr18 : AV := pv17
theorem pm18 : pr18.fresh = true ∧ CallPure PP 58 pa18 pr18 :=
  callPure_ran (n := 60) (lookN_ok pb0Ok.1 pb0Ok.2 mixed 100000 60).1 (by kernel_rfl) (by kernel_rfl)
noncomputable def pa19 : List AV := [(I .u16 (6)), (V false 4 []), pv13]
noncomputable def pr19 : AV := (B false)
theorem pm19 : pr19.fresh = true ∧ CallPure PP 57 pa19 pr19 :=
  callPure_ran (n := 60) (lookN_ok pb0Ok.1 pb0Ok.2 mixed 100000 60).1 (by kernel_rfl) (by kernel_rfl)
noncomputable def pv18 : AV := (G [(V false 1 [(S [97])]), (V false 5 [(G [(V false 1 [(S [97])]), (I .u16 (2)), (I .u16 (1)), (I .u32 (60)), (V false 4 [(G [(V false 1 [(V false 1 [(S [110, 115]), (S [97])])]), (N), (N), (N)])])]), (G [(V false 1 [(S [97])]), (I .u16 (6)), (I .u16 (1)), (I .u32 (60)), (V false 4 [(G [(V false 1 [(V false 1 [(S [110, 115]), (S [97])]), (V false 1 [(S [110, 115]), (S [97])])]), (V false 1 [(I .u32 (1)), (I .u32 (2)), (I .u32 (3)), (I .u32 (4)), (I .u32 (30))]), (N), (N)])])]), (G [(V false 1 [(S [110, 115]), (S [97])]), (I .u16 (1)), (I .u16 (1)), (I .u32 (60)), (V false 4 [(G [(N), (N), (N), (V false 1 [(I .u8 (10)), (I .u8 (0)), (I .u8 (0)), (I .u8 (2))])])])])])])
noncomputable def pb7 : Look := lookOf [(151, true, sameE), (148, true, compareE), (57, false, memoM 60 [(pa9, pr9), (pa19, pr19), (pa10, pr10)])]
theorem pb7Ok : LookOk PP pb7 ∧ LookFr pb7 :=
  lookOf_cons (fun args => same_call (fn := (PP.funcs[151]?).getD default) (by kernel_rfl) (by kernel_rfl) (by kernel_rfl) (by kernel_rfl) (by kernel_rfl) args) (fun args => sameE_framed args) (lookOf_cons (fun args => compare_call (fn := (PP.funcs[148]?).getD default) (by kernel_rfl) (by kernel_rfl) (by kernel_rfl) (by kernel_rfl) (by kernel_rfl) args) (fun args => compareE_framed args) (lookOf_cons (fun args => memo_call (MemoOk.cons pm9.1 pm9.2 (MemoOk.cons pm19.1 pm19.2 (MemoOk.cons pm10.1 pm10.2 (MemoOk.nil)))) args) (fun args => memo_framed 60 _ args) (lookOf_nil)))
noncomputable def pa20 : List AV := [pv18]
noncomputable def pr20 : AV := (I .i64 (0))
theorem pm20 : pr20.fresh = true ∧ CallPure PP 24 pa20 pr20 :=
  callPure_ran (n := 60) (lookN_ok pb7Ok.1 pb7Ok.2 mixed 100000 60).1 (by kernel_rfl) (by kernel_rfl)
noncomputable def pv19 : AV := (T [(G [(V true 1 [(S [97])]), (V true 5 [(G [(V true 1 [(S [97])]), (I .u16 (2)), (I .u16 (1)), (I .u32 (60)), (V true 4 [(G [(V true 1 [(V true 1 [(S [110, 115]), (S [97])])]), (N), (N), (N)])])]), (G [(V true 1 [(S [97])]), (I .u16 (6)), (I .u16 (1)), (I .u32 (60)), (V true 4 [(G [(V true 1 [(V true 1 [(S [110, 115]), (S [97])]), (V true 1 [(S [110, 115]), (S [97])])]), (V true 1 [(I .u32 (1)), (I .u32 (2)), (I .u32 (3)), (I .u32 (4)), (I .u32 (30))]), (N), (N)])])]), (G [(V true 1 [(S [110, 115]), (S [97])]), (I .u16 (1)), (I .u16 (1)), (I .u32 (60)), (V true 4 [(G [(N), (N), (N), (V true 1 [(I .u8 (10)), (I .u8 (0)), (I .u8 (0)), (I .u8 (2))])])])])])]), (I .i64 (0))])
noncomputable def pb8 : Look := lookOf [(151, true, sameE), (148, true, compareE), (58, false, memoM 60 [(pa18, pr18)]), (24, false, memoM 60 [(pa20, pr20)])]
theorem pb8Ok : LookOk PP pb8 ∧ LookFr pb8 :=
  lookOf_cons (fun args => same_call (fn := (PP.funcs[151]?).getD default) (by kernel_rfl) (by kernel_rfl) (by kernel_rfl) (by kernel_rfl) (by kernel_rfl) args) (fun args => sameE_framed args) (lookOf_cons (fun args => compare_call (fn := (PP.funcs[148]?).getD default) (by kernel_rfl) (by kernel_rfl) (by kernel_rfl) (by kernel_rfl) (by kernel_rfl) args) (fun args => compareE_framed args) (lookOf_cons (fun args => memo_call (MemoOk.cons pm18.1 pm18.2 (MemoOk.nil)) args) (fun args => memo_framed 60 _ args) (lookOf_cons (fun args => memo_call (MemoOk.cons pm20.1 pm20.2 (MemoOk.nil)) args) (fun args => memo_framed 60 _ args) (lookOf_nil))))
noncomputable def pa21 : List AV := [(V false 1 [(S [97])]), pv16]
noncomputable def pr21 : AV := pv19
theorem pm21 : pr21.fresh = true ∧ CallPure PP 27 pa21 pr21 :=
  callPure_ran (n := 60) (lookN_ok pb8Ok.1 pb8Ok.2 mixed 100000 60).1 (by kernel_rfl) (by kernel_rfl)
noncomputable def pb9 : Look := lookOf [(151, true, sameE), (148, true, compareE), (26, false, memoM 60 [(pa17, pr17)]), (27, false, memoM 60 [(pa21, pr21)])]
theorem pb9Ok : LookOk PP pb9 ∧ LookFr pb9 :=
  lookOf_cons (fun args => same_call (fn := (PP.funcs[151]?).getD default) (by kernel_rfl) (by kernel_rfl) (by kernel_rfl) (by kernel_rfl) (by kernel_rfl) args) (fun args => sameE_framed args) (lookOf_cons (fun args => compare_call (fn := (PP.funcs[148]?).getD default) (by kernel_rfl) (by kernel_rfl) (by kernel_rfl) (by kernel_rfl) (by kernel_rfl) args) (fun args => compareE_framed args) (lookOf_cons (fun args => memo_call (MemoOk.cons pm17.1 pm17.2 (MemoOk.nil)) args) (fun args => memo_framed 60 _ args) (lookOf_cons (fun args => memo_call (MemoOk.cons pm21.1 pm21.2 (MemoOk.nil)) args) (fun args => memo_framed 60 _ args) (lookOf_nil))))
noncomputable def pa22 : List AV := [(V false 1 [(S [97])]), pv14]
noncomputable def pr22 : AV := pv19
theorem pm22 : pr22.fresh = true ∧ CallPure PP 13 pa22 pr22 :=
  callPure_ran (n := 60) (lookN_ok pb9Ok.1 pb9Ok.2 mixed 100000 60).1 (by kernel_rfl) (by kernel_rfl)
noncomputable def pv20 : AV := (G [(V true 1 [(S [97])]), (V true 5 [(G [(V true 1 [(S [97])]), (I .u16 (2)), (I .u16 (1)), (I .u32 (60)), (V true 4 [(G [(V true 1 [(V true 1 [(S [110, 115]), (S [97])])]), (N), (N), (N)])])]), (G [(V true 1 [(S [97])]), (I .u16 (6)), (I .u16 (1)), (I .u32 (60)), (V true 4 [(G [(V true 1 [(V true 1 [(S [110, 115]), (S [97])]), (V true 1 [(S [110, 115]), (S [97])])]), (V true 1 [(I .u32 (1)), (I .u32 (2)), (I .u32 (3)), (I .u32 (4)), (I .u32 (30))]), (N), (N)])])]), (G [(V true 1 [(S [110, 115]), (S [97])]), (I .u16 (1)), (I .u16 (1)), (I .u32 (60)), (V true 4 [(G [(N), (N), (N), (V true 1 [(I .u8 (10)), (I .u8 (0)), (I .u8 (0)), (I .u8 (2))])])])])])])
noncomputable def pb10 : Look := lookOf [(151, true, sameE), (148, true, compareE), (13, false, memoM 60 [(pa22, pr22)])]
theorem pb10Ok : LookOk PP pb10 ∧ LookFr pb10 :=
  lookOf_cons (fun args => same_call (fn := (PP.funcs[151]?).getD default) (by kernel_rfl) (by kernel_rfl) (by kernel_rfl) (by kernel_rfl) (by kernel_rfl) args) (fun args => sameE_framed args) (lookOf_cons (fun args => compare_call (fn := (PP.funcs[148]?).getD default) (by kernel_rfl) (by kernel_rfl) (by kernel_rfl) (by kernel_rfl) (by kernel_rfl) args) (fun args => compareE_framed args) (lookOf_cons (fun args => memo_call (MemoOk.cons pm22.1 pm22.2 (MemoOk.nil)) args) (fun args => memo_framed 60 _ args) (lookOf_nil)))
noncomputable def pa23 : List AV := [(V false 1 [(S [97])]), (V false 1 [(S [110, 115]), (S [97])]), (I .u8 (2)), (N)]
noncomputable def pr23 : AV := pv20
theorem pm23 : pr23.fresh = true ∧ CallPure PP 23 pa23 pr23 :=
  callPure_ran (n := 60) (lookN_ok pb10Ok.1 pb10Ok.2 mixed 100000 60).1 (by kernel_rfl) (by kernel_rfl)
noncomputable def pv21 : AV := (G [(V false 1 [(V false 1 [(S [109]), (S [97])])]), (N), (N), (N)])
noncomputable def pa24 : List AV := [(I .u16 (5)), (N), pv21]
noncomputable def pr24 : AV := (B false)
theorem pm24 : pr24.fresh = true ∧ CallPure PP 57 pa24 pr24 :=
  callPure_ran (n := 60) (lookN_ok pb0Ok.1 pb0Ok.2 mixed 100000 60).1 (by kernel_rfl) (by kernel_rfl)
noncomputable def pv22 : AV := (G [(N), (N), (N), (V false 1 [(I .u8 (10)), (I .u8 (0)), (I .u8 (0)), (I .u8 (9))])])
noncomputable def pa25 : List AV := [(I .u16 (1)), (N), pv22]
noncomputable def pr25 : AV := (B false)
theorem pm25 : pr25.fresh = true ∧ CallPure PP 57 pa25 pr25 :=
  callPure_ran (n := 60) (lookN_ok pb0Ok.1 pb0Ok.2 mixed 100000 60).1 (by kernel_rfl) (by kernel_rfl)
noncomputable def pv23 : AV := (G [(V false 1 [(V false 1 [(S [120]), (S [97])])]), (N), (N), (N)])
noncomputable def pa26 : List AV := [(I .u16 (5)), (N), pv23]
noncomputable def pr26 : AV := (B false)
theorem pm26 : pr26.fresh = true ∧ CallPure PP 57 pa26 pr26 :=
  callPure_ran (n := 60) (lookN_ok pb0Ok.1 pb0Ok.2 mixed 100000 60).1 (by kernel_rfl) (by kernel_rfl)
noncomputable def pa27 : List AV := [(I .u16 (5)), (N), pv1]
noncomputable def pr27 : AV := (B false)
theorem pm27 : pr27.fresh = true ∧ CallPure PP 57 pa27 pr27 :=
  callPure_ran (n := 60) (lookN_ok pb0Ok.1 pb0Ok.2 mixed 100000 60).1 (by kernel_rfl) (by kernel_rfl)
noncomputable def pv24 : AV := (V false 8 [(G [(V false 1 [(S [97])]), (I .u16 (2)), (I .u16 (1)), (I .u32 (60)), (V false 1 [(V false 1 [(S [110, 115]), (S [97])])]), (N), (N), (N)]), (G [(V false 1 [(S [97])]), (I .u16 (6)), (I .u16 (1)), (I .u32 (60)), (V false 1 [(V false 1 [(S [110, 115]), (S [97])]), (V false 1 [(S [110, 115]), (S [97])])]), (V false 1 [(I .u32 (1)), (I .u32 (2)), (I .u32 (3)), (I .u32 (4)), (I .u32 (30))]), (N), (N)]), (G [(V false 1 [(S [110, 115]), (S [97])]), (I .u16 (1)), (I .u16 (1)), (I .u32 (60)), (N), (N), (N), (V false 1 [(I .u8 (10)), (I .u8 (0)), (I .u8 (0)), (I .u8 (2))])]), (G [(V false 1 [(S [119, 119, 119]), (S [97])]), (I .u16 (5)), (I .u16 (1)), (I .u32 (60)), (V false 1 [(V false 1 [(S [109]), (S [97])])]), (N), (N), (N)]), (G [(V false 1 [(S [109]), (S [97])]), (I .u16 (1)), (I .u16 (1)), (I .u32 (60)), (N), (N), (N), (V false 1 [(I .u8 (10)), (I .u8 (0)), (I .u8 (0)), (I .u8 (9))])]), (G [(V false 1 [(S [120]), (S [97])]), (I .u16 (5)), (I .u16 (1)), (I .u32 (60)), (V false 1 [(V false 1 [(S [120]), (S [97])])]), (N), (N), (N)]), (G [(V false 1 [(S [111]), (S [97])]), (I .u16 (5)), (I .u16 (1)), (I .u32 (60)), (V false 1 [(V false 1 [(S [110, 115]), (S [114, 111, 111, 116])])]), (N), (N), (N)])])
noncomputable def pv25 : AV := (T [(V true 5 [(G [(V true 1 [(S [97])]), (I .u16 (2)), (I .u16 (1)), (I .u32 (60)), (V true 4 [(G [(V true 1 [(V true 1 [(S [110, 115]), (S [97])])]), (N), (N), (N)])])]), (G [(V true 1 [(S [97])]), (I .u16 (6)), (I .u16 (1)), (I .u32 (60)), (V true 4 [(G [(V true 1 [(V true 1 [(S [110, 115]), (S [97])]), (V true 1 [(S [110, 115]), (S [97])])]), (V true 1 [(I .u32 (1)), (I .u32 (2)), (I .u32 (3)), (I .u32 (4)), (I .u32 (30))]), (N), (N)])])]), (G [(V true 1 [(S [110, 115]), (S [97])]), (I .u16 (1)), (I .u16 (1)), (I .u32 (60)), (V true 4 [(G [(N), (N), (N), (V true 1 [(I .u8 (10)), (I .u8 (0)), (I .u8 (0)), (I .u8 (2))])])])]), (G [(V true 1 [(S [119, 119, 119]), (S [97])]), (I .u16 (5)), (I .u16 (1)), (I .u32 (60)), (V true 4 [(G [(V true 1 [(V true 1 [(S [109]), (S [97])])]), (N), (N), (N)])])]), (G [(V true 1 [(S [109]), (S [97])]), (I .u16 (1)), (I .u16 (1)), (I .u32 (60)), (V true 4 [(G [(N), (N), (N), (V true 1 [(I .u8 (10)), (I .u8 (0)), (I .u8 (0)), (I .u8 (9))])])])]), (G [(V true 1 [(S [120]), (S [97])]), (I .u16 (5)), (I .u16 (1)), (I .u32 (60)), (V true 4 [(G [(V true 1 [(V true 1 [(S [120]), (S [97])])]), (N), (N), (N)])])]), (G [(V true 1 [(S [111]), (S [97])]), (I .u16 (5)), (I .u16 (1)), (I .u32 (60)), (V true 4 [(G [(V true 1 [(V true 1 [(S [110, 115]), (S [114, 111, 111, 116])])]), (N), (N), (N)])])])]), (I .i64 (0))])
noncomputable def pb11 : Look := lookOf [(151, true, sameE), (148, true, compareE), (57, false, memoM 60 [(pa3, pr3), (pa16, pr16), (pa4, pr4), (pa24, pr24), (pa25, pr25), (pa26, pr26), (pa27, pr27)])]
theorem pb11Ok : LookOk PP pb11 ∧ LookFr pb11 :=
  lookOf_cons (fun args => same_call (fn := (PP.funcs[151]?).getD default) (by kernel_rfl) (by kernel_rfl) (by kernel_rfl) (by kernel_rfl) (by kernel_rfl) args) (fun args => sameE_framed args) (lookOf_cons (fun args => compare_call (fn := (PP.funcs[148]?).getD default) (by kernel_rfl) (by kernel_rfl) (by kernel_rfl) (by kernel_rfl) (by kernel_rfl) args) (fun args => compareE_framed args) (lookOf_cons (fun args => memo_call (MemoOk.cons pm3.1 pm3.2 (MemoOk.cons pm16.1 pm16.2 (MemoOk.cons pm4.1 pm4.2 (MemoOk.cons pm24.1 pm24.2 (MemoOk.cons pm25.1 pm25.2 (MemoOk.cons pm26.1 pm26.2 (MemoOk.cons pm27.1 pm27.2 (MemoOk.nil)))))))) args) (fun args => memo_framed 60 _ args) (lookOf_nil)))
noncomputable def pa28 : List AV := [pv24]
noncomputable def pr28 : AV := pv25
theorem pm28 : pr28.fresh = true ∧ CallPure PP 26 pa28 pr28 :=
  callPure_ran (n := 60) (lookN_ok pb11Ok.1 pb11Ok.2 mixed 100000 60).1 (by kernel_rfl) (by kernel_rfl)
noncomputable def pv26 : AV := (V false 5 [(G [(V false 1 [(S [97])]), (I .u16 (2)), (I .u16 (1)), (I .u32 (60)), (V false 4 [(G [(V false 1 [(V false 1 [(S [110, 115]), (S [97])])]), (N), (N), (N)])])]), (G [(V false 1 [(S [97])]), (I .u16 (6)), (I .u16 (1)), (I .u32 (60)), (V false 4 [(G [(V false 1 [(V false 1 [(S [110, 115]), (S [97])]), (V false 1 [(S [110, 115]), (S [97])])]), (V false 1 [(I .u32 (1)), (I .u32 (2)), (I .u32 (3)), (I .u32 (4)), (I .u32 (30))]), (N), (N)])])]), (G [(V false 1 [(S [110, 115]), (S [97])]), (I .u16 (1)), (I .u16 (1)), (I .u32 (60)), (V false 4 [(G [(N), (N), (N), (V false 1 [(I .u8 (10)), (I .u8 (0)), (I .u8 (0)), (I .u8 (2))])])])]), (G [(V false 1 [(S [119, 119, 119]), (S [97])]), (I .u16 (5)), (I .u16 (1)), (I .u32 (60)), (V false 4 [(G [(V false 1 [(V false 1 [(S [109]), (S [97])])]), (N), (N), (N)])])]), (G [(V false 1 [(S [109]), (S [97])]), (I .u16 (1)), (I .u16 (1)), (I .u32 (60)), (V false 4 [(G [(N), (N), (N), (V false 1 [(I .u8 (10)), (I .u8 (0)), (I .u8 (0)), (I .u8 (9))])])])]), (G [(V false 1 [(S [120]), (S [97])]), (I .u16 (5)), (I .u16 (1)), (I .u32 (60)), (V false 4 [(G [(V false 1 [(V false 1 [(S [120]), (S [97])])]), (N), (N), (N)])])]), (G [(V false 1 [(S [111]), (S [97])]), (I .u16 (5)), (I .u16 (1)), (I .u32 (60)), (V false 4 [(G [(V false 1 [(V false 1 [(S [110, 115]), (S [114, 111, 111, 116])])]), (N), (N), (N)])])])])
noncomputable def pv27 : AV := (V true 5 [(G [(V true 1 [(S [97])]), (I .u16 (2)), (I .u16 (1)), (I .u32 (60)), (V true 4 [(G [(V true 1 [(V true 1 [(S [110, 115]), (S [97])])]), (N), (N), (N)])])]), (G [(V true 1 [(S [97])]), (I .u16 (6)), (I .u16 (1)), (I .u32 (60)), (V true 4 [(G [(V true 1 [(V true 1 [(S [110, 115]), (S [97])]), (V true 1 [(S [110, 115]), (S [97])])]), (V true 1 [(I .u32 (1)), (I .u32 (2)), (I .u32 (3)), (I .u32 (4)), (I .u32 (30))]), (N), (N)])])]), (G [(V true 1 [(S [109]), (S [97])]), (I .u16 (1)), (I .u16 (1)), (I .u32 (60)), (V true 4 [(G [(N), (N), (N), (V true 1 [(I .u8 (10)), (I .u8 (0)), (I .u8 (0)), (I .u8 (9))])])])]), (G [(V true 1 [(S [110, 115]), (S [97])]), (I .u16 (1)), (I .u16 (1)), (I .u32 (60)), (V true 4 [(G [(N), (N), (N), (V true 1 [(I .u8 (10)), (I .u8 (0)), (I .u8 (0)), (I .u8 (2))])])])]), (G [(V true 1 [(S [111]), (S [97])]), (I .u16 (5)), (I .u16 (1)), (I .u32 (60)), (V true 4 [(G [(V true 1 [(V true 1 [(S [110, 115]), (S [114, 111, 111, 116])])]), (N), (N), (N)])])]), (G [(V true 1 [(S [119, 119, 119]), (S [97])]), (I .u16 (5)), (I .u16 (1)), (I .u32 (60)), (V true 4 [(G [(V true 1 [(V true 1 [(S [109]), (S [97])])]), (N), (N), (N)])])]), (G [(V true 1 [(S [120]), (S [97])]), (I .u16 (5)), (I .u16 (1)), (I .u32 (60)), (V true 4 [(G [(V true 1 [(V true 1 [(S [120]), (S [97])])]), (N), (N), (N)])])])])
noncomputable def pa29 : List AV := [pv26]
noncomputable def pr29 : AV := pv27
theorem pm29 : pr29.fresh = true ∧ CallPure PP 58 pa29 pr29 :=
  callPure_ran (n := 60) (lookN_ok pb0Ok.1 pb0Ok.2 mixed 100000 60).1 (by kernel_rfl) (by kernel_rfl)
noncomputable def pa30 : List AV := [(I .u16 (1)), (V false 4 []), pv22]
noncomputable def pr30 : AV := (B false)
theorem pm30 : pr30.fresh = true ∧ CallPure PP 57 pa30 pr30 :=
  callPure_ran (n := 60) (lookN_ok pb0Ok.1 pb0Ok.2 mixed 100000 60).1 (by kernel_rfl) (by kernel_rfl)
noncomputable def pa31 : List AV := [(I .u16 (5)), (V false 4 []), pv1]
noncomputable def pr31 : AV := (B false)
theorem pm31 : pr31.fresh = true ∧ CallPure PP 57 pa31 pr31 :=
  callPure_ran (n := 60) (lookN_ok pb0Ok.1 pb0Ok.2 mixed 100000 60).1 (by kernel_rfl) (by kernel_rfl)
noncomputable def pa32 : List AV := [(I .u16 (5)), (V false 4 []), pv21]
noncomputable def pr32 : AV := (B false)
theorem pm32 : pr32.fresh = true ∧ CallPure PP 57 pa32 pr32 :=
  callPure_ran (n := 60) (lookN_ok pb0Ok.1 pb0Ok.2 mixed 100000 60).1 (by kernel_rfl) (by kernel_rfl)
noncomputable def pa33 : List AV := [(I .u16 (5)), (V false 4 []), pv23]
noncomputable def pr33 : AV := (B false)
theorem pm33 : pr33.fresh = true ∧ CallPure PP 57 pa33 pr33 :=
  callPure_ran (n := 60) (lookN_ok pb0Ok.1 pb0Ok.2 mixed 100000 60).1 (by kernel_rfl) (by kernel_rfl)
noncomputable def pv28 : AV := (G [(V false 1 [(S [97])]), (V false 5 [(G [(V false 1 [(S [97])]), (I .u16 (2)), (I .u16 (1)), (I .u32 (60)), (V false 4 [(G [(V false 1 [(V false 1 [(S [110, 115]), (S [97])])]), (N), (N), (N)])])]), (G [(V false 1 [(S [97])]), (I .u16 (6)), (I .u16 (1)), (I .u32 (60)), (V false 4 [(G [(V false 1 [(V false 1 [(S [110, 115]), (S [97])]), (V false 1 [(S [110, 115]), (S [97])])]), (V false 1 [(I .u32 (1)), (I .u32 (2)), (I .u32 (3)), (I .u32 (4)), (I .u32 (30))]), (N), (N)])])]), (G [(V false 1 [(S [109]), (S [97])]), (I .u16 (1)), (I .u16 (1)), (I .u32 (60)), (V false 4 [(G [(N), (N), (N), (V false 1 [(I .u8 (10)), (I .u8 (0)), (I .u8 (0)), (I .u8 (9))])])])]), (G [(V false 1 [(S [110, 115]), (S [97])]), (I .u16 (1)), (I .u16 (1)), (I .u32 (60)), (V false 4 [(G [(N), (N), (N), (V false 1 [(I .u8 (10)), (I .u8 (0)), (I .u8 (0)), (I .u8 (2))])])])]), (G [(V false 1 [(S [111]), (S [97])]), (I .u16 (5)), (I .u16 (1)), (I .u32 (60)), (V false 4 [(G [(V false 1 [(V false 1 [(S [110, 115]), (S [114, 111, 111, 116])])]), (N), (N), (N)])])]), (G [(V false 1 [(S [119, 119, 119]), (S [97])]), (I .u16 (5)), (I .u16 (1)), (I .u32 (60)), (V false 4 [(G [(V false 1 [(V false 1 [(S [109]), (S [97])])]), (N), (N), (N)])])]), (G [(V false 1 [(S [120]), (S [97])]), (I .u16 (5)), (I .u16 (1)), (I .u32 (60)), (V false 4 [(G [(V false 1 [(V false 1 [(S [120]), (S [97])])]), (N), (N), (N)])])])])])
noncomputable def pb12 : Look := lookOf [(151, true, sameE), (148, true, compareE), (57, false, memoM 60 [(pa9, pr9), (pa19, pr19), (pa30, pr30), (pa10, pr10), (pa31, pr31), (pa32, pr32), (pa33, pr33)])]
theorem pb12Ok : LookOk PP pb12 ∧ LookFr pb12 :=
  lookOf_cons (fun args => same_call (fn := (PP.funcs[151]?).getD default) (by kernel_rfl) (by kernel_rfl) (by kernel_rfl) (by kernel_rfl) (by kernel_rfl) args) (fun args => sameE_framed args) (lookOf_cons (fun args => compare_call (fn := (PP.funcs[148]?).getD default) (by kernel_rfl) (by kernel_rfl) (by kernel_rfl) (by kernel_rfl) (by kernel_rfl) args) (fun args => compareE_framed args) (lookOf_cons (fun args => memo_call (MemoOk.cons pm9.1 pm9.2 (MemoOk.cons pm19.1 pm19.2 (MemoOk.cons pm30.1 pm30.2 (MemoOk.cons pm10.1 pm10.2 (MemoOk.cons pm31.1 pm31.2 (MemoOk.cons pm32.1 pm32.2 (MemoOk.cons pm33.1 pm33.2 (MemoOk.nil)))))))) args) (fun args => memo_framed 60 _ args) (lookOf_nil)))
noncomputable def pa34 : List AV := [pv28]
noncomputable def pr34 : AV := (I .i64 (0))
theorem pm34 : pr34.fresh = true ∧ CallPure PP 24 pa34 pr34 :=
  callPure_ran (n := 60) (lookN_ok pb12Ok.1 pb12Ok.2 mixed 100000 60).1 (by kernel_rfl) (by kernel_rfl)
noncomputable def pv29 : AV := (T [(G [(V true 1 [(S [97])]), (V true 5 [(G [(V true 1 [(S [97])]), (I .u16 (2)), (I .u16 (1)), (I .u32 (60)), (V true 4 [(G [(V true 1 [(V true 1 [(S [110, 115]), (S [97])])]), (N), (N), (N)])])]), (G [(V true 1 [(S [97])]), (I .u16 (6)), (I .u16 (1)), (I .u32 (60)), (V true 4 [(G [(V true 1 [(V true 1 [(S [110, 115]), (S [97])]), (V true 1 [(S [110, 115]), (S [97])])]), (V true 1 [(I .u32 (1)), (I .u32 (2)), (I .u32 (3)), (I .u32 (4)), (I .u32 (30))]), (N), (N)])])]), (G [(V true 1 [(S [109]), (S [97])]), (I .u16 (1)), (I .u16 (1)), (I .u32 (60)), (V true 4 [(G [(N), (N), (N), (V true 1 [(I .u8 (10)), (I .u8 (0)), (I .u8 (0)), (I .u8 (9))])])])]), (G [(V true 1 [(S [110, 115]), (S [97])]), (I .u16 (1)), (I .u16 (1)), (I .u32 (60)), (V true 4 [(G [(N), (N), (N), (V true 1 [(I .u8 (10)), (I .u8 (0)), (I .u8 (0)), (I .u8 (2))])])])]), (G [(V true 1 [(S [111]), (S [97])]), (I .u16 (5)), (I .u16 (1)), (I .u32 (60)), (V true 4 [(G [(V true 1 [(V true 1 [(S [110, 115]), (S [114, 111, 111, 116])])]), (N), (N), (N)])])]), (G [(V true 1 [(S [119, 119, 119]), (S [97])]), (I .u16 (5)), (I .u16 (1)), (I .u32 (60)), (V true 4 [(G [(V true 1 [(V true 1 [(S [109]), (S [97])])]), (N), (N), (N)])])]), (G [(V true 1 [(S [120]), (S [97])]), (I .u16 (5)), (I .u16 (1)), (I .u32 (60)), (V true 4 [(G [(V true 1 [(V true 1 [(S [120]), (S [97])])]), (N), (N), (N)])])])])]), (I .i64 (0))])
noncomputable def pb13 : Look := lookOf [(151, true, sameE), (148, true, compareE), (58, false, memoM 60 [(pa29, pr29)]), (24, false, memoM 60 [(pa34, pr34)])]
theorem pb13Ok : LookOk PP pb13 ∧ LookFr pb13 :=
  lookOf_cons (fun args => same_call (fn := (PP.funcs[151]?).getD default) (by kernel_rfl) (by kernel_rfl) (by kernel_rfl) (by kernel_rfl) (by kernel_rfl) args) (fun args => sameE_framed args) (lookOf_cons (fun args => compare_call (fn := (PP.funcs[148]?).getD default) (by kernel_rfl) (by kernel_rfl) (by kernel_rfl) (by kernel_rfl) (by kernel_rfl) args) (fun args => compareE_framed args) (lookOf_cons (fun args => memo_call (MemoOk.cons pm29.1 pm29.2 (MemoOk.nil)) args) (fun args => memo_framed 60 _ args) (lookOf_cons (fun args => memo_call (MemoOk.cons pm34.1 pm34.2 (MemoOk.nil)) args) (fun args => memo_framed 60 _ args) (lookOf_nil))))
noncomputable def pa35 : List AV := [(V false 1 [(S [97])]), pv26]
noncomputable def pr35 : AV := pv29
theorem pm35 : pr35.fresh = true ∧ CallPure PP 27 pa35 pr35 :=
  callPure_ran (n := 60) (lookN_ok pb13Ok.1 pb13Ok.2 mixed 100000 60).1 (by kernel_rfl) (by kernel_rfl)
noncomputable def pb14 : Look := lookOf [(151, true, sameE), (148, true, compareE), (26, false, memoM 60 [(pa28, pr28)]), (27, false, memoM 60 [(pa35, pr35)])]
theorem pb14Ok : LookOk PP pb14 ∧ LookFr pb14 :=
  lookOf_cons (fun args => same_call (fn := (PP.funcs[151]?).getD default) (by kernel_rfl) (by kernel_rfl) (by kernel_rfl) (by kernel_rfl) (by kernel_rfl) args) (fun args => sameE_framed args) (lookOf_cons (fun args => compare_call (fn := (PP.funcs[148]?).getD default) (by kernel_rfl) (by kernel_rfl) (by kernel_rfl) (by kernel_rfl) (by kernel_rfl) args) (fun args => compareE_framed args) (lookOf_cons (fun args => memo_call (MemoOk.cons pm28.1 pm28.2 (MemoOk.nil)) args) (fun args => memo_framed 60 _ args) (lookOf_cons (fun args => memo_call (MemoOk.cons pm35.1 pm35.2 (MemoOk.nil)) args) (fun args => memo_framed 60 _ args) (lookOf_nil))))
noncomputable def pa36 : List AV := [(V false 1 [(S [97])]), pv24]
noncomputable def pr36 : AV := pv29
theorem pm36 : pr36.fresh = true ∧ CallPure PP 13 pa36 pr36 :=
  callPure_ran (n := 60) (lookN_ok pb14Ok.1 pb14Ok.2 mixed 100000 60).1 (by kernel_rfl) (by kernel_rfl)
noncomputable def pv30 : AV := (G [(V true 2 [(G [(V true 1 []), (V true 5 [(G [(V true 1 []), (I .u16 (2)), (I .u16 (1)), (I .u32 (60)), (V true 4 [(G [(V true 1 [(V true 1 [(S [110, 115]), (S [114, 111, 111, 116])])]), (N), (N), (N)])])]), (G [(V true 1 []), (I .u16 (6)), (I .u16 (1)), (I .u32 (60)), (V true 4 [(G [(V true 1 [(V true 1 [(S [110, 115]), (S [114, 111, 111, 116])]), (V true 1 [(S [110, 115]), (S [114, 111, 111, 116])])]), (V true 1 [(I .u32 (1)), (I .u32 (2)), (I .u32 (3)), (I .u32 (4)), (I .u32 (30))]), (N), (N)])])]), (G [(V true 1 [(S [97])]), (I .u16 (2)), (I .u16 (1)), (I .u32 (60)), (V true 4 [(G [(V true 1 [(V true 1 [(S [110, 115]), (S [97])])]), (N), (N), (N)])])]), (G [(V true 1 [(S [110, 115]), (S [97])]), (I .u16 (1)), (I .u16 (1)), (I .u32 (60)), (V true 4 [(G [(N), (N), (N), (V true 1 [(I .u8 (10)), (I .u8 (0)), (I .u8 (0)), (I .u8 (2))])])])]), (G [(V true 1 [(S [110, 115]), (S [114, 111, 111, 116])]), (I .u16 (1)), (I .u16 (1)), (I .u32 (60)), (V true 4 [(G [(N), (N), (N), (V true 1 [(I .u8 (10)), (I .u8 (0)), (I .u8 (0)), (I .u8 (1))])])])])])]), (G [(V true 1 [(S [97])]), (V true 5 [(G [(V true 1 [(S [97])]), (I .u16 (2)), (I .u16 (1)), (I .u32 (60)), (V true 4 [(G [(V true 1 [(V true 1 [(S [110, 115]), (S [97])])]), (N), (N), (N)])])]), (G [(V true 1 [(S [97])]), (I .u16 (6)), (I .u16 (1)), (I .u32 (60)), (V true 4 [(G [(V true 1 [(V true 1 [(S [110, 115]), (S [97])]), (V true 1 [(S [110, 115]), (S [97])])]), (V true 1 [(I .u32 (1)), (I .u32 (2)), (I .u32 (3)), (I .u32 (4)), (I .u32 (30))]), (N), (N)])])]), (G [(V true 1 [(S [109]), (S [97])]), (I .u16 (1)), (I .u16 (1)), (I .u32 (60)), (V true 4 [(G [(N), (N), (N), (V true 1 [(I .u8 (10)), (I .u8 (0)), (I .u8 (0)), (I .u8 (9))])])])]), (G [(V true 1 [(S [110, 115]), (S [97])]), (I .u16 (1)), (I .u16 (1)), (I .u32 (60)), (V true 4 [(G [(N), (N), (N), (V true 1 [(I .u8 (10)), (I .u8 (0)), (I .u8 (0)), (I .u8 (2))])])])]), (G [(V true 1 [(S [111]), (S [97])]), (I .u16 (5)), (I .u16 (1)), (I .u32 (60)), (V true 4 [(G [(V true 1 [(V true 1 [(S [110, 115]), (S [114, 111, 111, 116])])]), (N), (N), (N)])])]), (G [(V true 1 [(S [119, 119, 119]), (S [97])]), (I .u16 (5)), (I .u16 (1)), (I .u32 (60)), (V true 4 [(G [(V true 1 [(V true 1 [(S [109]), (S [97])])]), (N), (N), (N)])])]), (G [(V true 1 [(S [120]), (S [97])]), (I .u16 (5)), (I .u16 (1)), (I .u32 (60)), (V true 4 [(G [(V true 1 [(V true 1 [(S [120]), (S [97])])]), (N), (N), (N)])])])])])]), (V true 2 [(G [(I .u32 (167772161)), (V true 1 [(I .i64 (0))])]), (G [(I .u32 (167772162)), (V true 1 [(I .i64 (1))])])]), (V true 1 [(I .u32 (167772161))])])
noncomputable def pb15 : Look := lookOf [(151, true, sameE), (148, true, compareE), (23, false, memoM 60 [(pa15, pr15), (pa23, pr23)]), (24, false, memoM 60 [(pa20, pr20)]), (57, false, memoM 60 [(pa9, pr9), (pa19, pr19), (pa10, pr10)]), (13, false, memoM 60 [(pa36, pr36)])]
theorem pb15Ok : LookOk PP pb15 ∧ LookFr pb15 :=
  lookOf_cons (fun args => same_call (fn := (PP.funcs[151]?).getD default) (by kernel_rfl) (by kernel_rfl) (by kernel_rfl) (by kernel_rfl) (by kernel_rfl) args) (fun args => sameE_framed args) (lookOf_cons (fun args => compare_call (fn := (PP.funcs[148]?).getD default) (by kernel_rfl) (by kernel_rfl) (by kernel_rfl) (by kernel_rfl) (by kernel_rfl) args) (fun args => compareE_framed args) (lookOf_cons (fun args => memo_call (MemoOk.cons pm15.1 pm15.2 (MemoOk.cons pm23.1 pm23.2 (MemoOk.nil))) args) (fun args => memo_framed 60 _ args) (lookOf_cons (fun args => memo_call (MemoOk.cons pm20.1 pm20.2 (MemoOk.nil)) args) (fun args => memo_framed 60 _ args) (lookOf_cons (fun args => memo_call (MemoOk.cons pm9.1 pm9.2 (MemoOk.cons pm19.1 pm19.2 (MemoOk.cons pm10.1 pm10.2 (MemoOk.nil)))) args) (fun args => memo_framed 60 _ args) (lookOf_cons (fun args => memo_call (MemoOk.cons pm36.1 pm36.2 (MemoOk.nil)) args) (fun args => memo_framed 60 _ args) (lookOf_nil))))))
noncomputable def pa37 : List AV := []
noncomputable def pr37 : AV := pv30
theorem pm37 : pr37.fresh = true ∧ CallPure PP 4 pa37 pr37 :=
  callPure_ran (n := 60) (lookN_ok pb15Ok.1 pb15Ok.2 mixed 100000 60).1 (by kernel_rfl) (by kernel_rfl)
noncomputable def pv31 : AV := (G [(V false 2 [(G [(V false 1 []), (V false 5 [(G [(V false 1 []), (I .u16 (2)), (I .u16 (1)), (I .u32 (60)), (V false 4 [(G [(V false 1 [(V false 1 [(S [110, 115]), (S [114, 111, 111, 116])])]), (N), (N), (N)])])]), (G [(V false 1 []), (I .u16 (6)), (I .u16 (1)), (I .u32 (60)), (V false 4 [(G [(V false 1 [(V false 1 [(S [110, 115]), (S [114, 111, 111, 116])]), (V false 1 [(S [110, 115]), (S [114, 111, 111, 116])])]), (V false 1 [(I .u32 (1)), (I .u32 (2)), (I .u32 (3)), (I .u32 (4)), (I .u32 (30))]), (N), (N)])])]), (G [(V false 1 [(S [97])]), (I .u16 (2)), (I .u16 (1)), (I .u32 (60)), (V false 4 [(G [(V false 1 [(V false 1 [(S [110, 115]), (S [97])])]), (N), (N), (N)])])]), (G [(V false 1 [(S [110, 115]), (S [97])]), (I .u16 (1)), (I .u16 (1)), (I .u32 (60)), (V false 4 [(G [(N), (N), (N), (V false 1 [(I .u8 (10)), (I .u8 (0)), (I .u8 (0)), (I .u8 (2))])])])]), (G [(V false 1 [(S [110, 115]), (S [114, 111, 111, 116])]), (I .u16 (1)), (I .u16 (1)), (I .u32 (60)), (V false 4 [(G [(N), (N), (N), (V false 1 [(I .u8 (10)), (I .u8 (0)), (I .u8 (0)), (I .u8 (1))])])])])])]), (G [(V false 1 [(S [97])]), (V false 5 [(G [(V false 1 [(S [97])]), (I .u16 (2)), (I .u16 (1)), (I .u32 (60)), (V false 4 [(G [(V false 1 [(V false 1 [(S [110, 115]), (S [97])])]), (N), (N), (N)])])]), (G [(V false 1 [(S [97])]), (I .u16 (6)), (I .u16 (1)), (I .u32 (60)), (V false 4 [(G [(V false 1 [(V false 1 [(S [110, 115]), (S [97])]), (V false 1 [(S [110, 115]), (S [97])])]), (V false 1 [(I .u32 (1)), (I .u32 (2)), (I .u32 (3)), (I .u32 (4)), (I .u32 (30))]), (N), (N)])])]), (G [(V false 1 [(S [109]), (S [97])]), (I .u16 (1)), (I .u16 (1)), (I .u32 (60)), (V false 4 [(G [(N), (N), (N), (V false 1 [(I .u8 (10)), (I .u8 (0)), (I .u8 (0)), (I .u8 (9))])])])]), (G [(V false 1 [(S [110, 115]), (S [97])]), (I .u16 (1)), (I .u16 (1)), (I .u32 (60)), (V false 4 [(G [(N), (N), (N), (V false 1 [(I .u8 (10)), (I .u8 (0)), (I .u8 (0)), (I .u8 (2))])])])]), (G [(V false 1 [(S [111]), (S [97])]), (I .u16 (5)), (I .u16 (1)), (I .u32 (60)), (V false 4 [(G [(V false 1 [(V false 1 [(S [110, 115]), (S [114, 111, 111, 116])])]), (N), (N), (N)])])]), (G [(V false 1 [(S [119, 119, 119]), (S [97])]), (I .u16 (5)), (I .u16 (1)), (I .u32 (60)), (V false 4 [(G [(V false 1 [(V false 1 [(S [109]), (S [97])])]), (N), (N), (N)])])]), (G [(V false 1 [(S [120]), (S [97])]), (I .u16 (5)), (I .u16 (1)), (I .u32 (60)), (V false 4 [(G [(V false 1 [(V false 1 [(S [120]), (S [97])])]), (N), (N), (N)])])])])])]), (V false 2 [(G [(I .u32 (167772161)), (V false 1 [(I .i64 (0))])]), (G [(I .u32 (167772162)), (V false 1 [(I .i64 (1))])])]), (V false 1 [(I .u32 (167772161))])])
noncomputable def pb16 : Look := lookOf [(151, true, sameE), (148, true, compareE), (24, false, memoM 60 [(pa12, pr12), (pa34, pr34)])]
theorem pb16Ok : LookOk PP pb16 ∧ LookFr pb16 :=
  lookOf_cons (fun args => same_call (fn := (PP.funcs[151]?).getD default) (by kernel_rfl) (by kernel_rfl) (by kernel_rfl) (by kernel_rfl) (by kernel_rfl) args) (fun args => sameE_framed args) (lookOf_cons (fun args => compare_call (fn := (PP.funcs[148]?).getD default) (by kernel_rfl) (by kernel_rfl) (by kernel_rfl) (by kernel_rfl) (by kernel_rfl) args) (fun args => compareE_framed args) (lookOf_cons (fun args => memo_call (MemoOk.cons pm12.1 pm12.2 (MemoOk.cons pm34.1 pm34.2 (MemoOk.nil))) args) (fun args => memo_framed 60 _ args) (lookOf_nil)))
noncomputable def pa38 : List AV := [pv31]
noncomputable def pr38 : AV := (I .i64 (0))
theorem pm38 : pr38.fresh = true ∧ CallPure PP 62 pa38 pr38 :=
  callPure_ran (n := 60) (lookN_ok pb16Ok.1 pb16Ok.2 mixed 100000 60).1 (by kernel_rfl) (by kernel_rfl)
noncomputable def pa39 : List AV := [(I .u16 (2)), pv3, pv3]
noncomputable def pr39 : AV := (I .i64 (0))
theorem pm39 : pr39.fresh = true ∧ CallPure PP 80 pa39 pr39 :=
  callPure_ran (n := 60) (lookN_ok pb0Ok.1 pb0Ok.2 mixed 100000 60).1 (by kernel_rfl) (by kernel_rfl)
noncomputable def pb17 : Look := lookOf [(151, true, sameE), (148, true, compareE), (80, false, memoM 60 [(pa39, pr39)])]
theorem pb17Ok : LookOk PP pb17 ∧ LookFr pb17 :=
  lookOf_cons (fun args => same_call (fn := (PP.funcs[151]?).getD default) (by kernel_rfl) (by kernel_rfl) (by kernel_rfl) (by kernel_rfl) (by kernel_rfl) args) (fun args => sameE_framed args) (lookOf_cons (fun args => compare_call (fn := (PP.funcs[148]?).getD default) (by kernel_rfl) (by kernel_rfl) (by kernel_rfl) (by kernel_rfl) (by kernel_rfl) args) (fun args => compareE_framed args) (lookOf_cons (fun args => memo_call (MemoOk.cons pm39.1 pm39.2 (MemoOk.nil)) args) (fun args => memo_framed 60 _ args) (lookOf_nil)))
noncomputable def pa40 : List AV := [(I .u16 (2)), pv3, pv3]
noncomputable def pr40 : AV := (B true)
theorem pm40 : pr40.fresh = true ∧ CallPure PP 96 pa40 pr40 :=
  callPure_ran (n := 60) (lookN_ok pb17Ok.1 pb17Ok.2 mixed 100000 60).1 (by kernel_rfl) (by kernel_rfl)
noncomputable def pv32 : AV := (V false 4 [(G [(V false 1 [(V false 1 [(S [110, 115]), (S [97])])]), (N), (N), (N)])])
noncomputable def pb18 : Look := lookOf [(151, true, sameE), (148, true, compareE), (96, false, memoM 60 [(pa40, pr40)])]
theorem pb18Ok : LookOk PP pb18 ∧ LookFr pb18 :=
  lookOf_cons (fun args => same_call (fn := (PP.funcs[151]?).getD default) (by kernel_rfl) (by kernel_rfl) (by kernel_rfl) (by kernel_rfl) (by kernel_rfl) args) (fun args => sameE_framed args) (lookOf_cons (fun args => compare_call (fn := (PP.funcs[148]?).getD default) (by kernel_rfl) (by kernel_rfl) (by kernel_rfl) (by kernel_rfl) (by kernel_rfl) args) (fun args => compareE_framed args) (lookOf_cons (fun args => memo_call (MemoOk.cons pm40.1 pm40.2 (MemoOk.nil)) args) (fun args => memo_framed 60 _ args) (lookOf_nil)))
noncomputable def pa41 : List AV := [(I .u16 (2)), pv32, pv3]
noncomputable def pr41 : AV := (B true)
theorem pm41 : pr41.fresh = true ∧ CallPure PP 57 pa41 pr41 :=
  callPure_ran (n := 60) (lookN_ok pb18Ok.1 pb18Ok.2 mixed 100000 60).1 (by kernel_rfl) (by kernel_rfl)
noncomputable def pv33 : AV := (G [(V false 1 [(S [97])]), (I .u16 (2)), (I .u16 (1)), (I .u32 (60)), (V false 4 [(G [(V false 1 [(V false 1 [(S [110, 115]), (S [97])])]), (N), (N), (N)])])])
noncomputable def pb19 : Look := lookOf [(151, true, sameE), (148, true, compareE), (57, false, memoM 60 [(pa41, pr41)])]
theorem pb19Ok : LookOk PP pb19 ∧ LookFr pb19 :=
  lookOf_cons (fun args => same_call (fn := (PP.funcs[151]?).getD default) (by kernel_rfl) (by kernel_rfl) (by kernel_rfl) (by kernel_rfl) (by kernel_rfl) args) (fun args => sameE_framed args) (lookOf_cons (fun args => compare_call (fn := (PP.funcs[148]?).getD default) (by kernel_rfl) (by kernel_rfl) (by kernel_rfl) (by kernel_rfl) (by kernel_rfl) args) (fun args => compareE_framed args) (lookOf_cons (fun args => memo_call (MemoOk.cons pm41.1 pm41.2 (MemoOk.nil)) args) (fun args => memo_framed 60 _ args) (lookOf_nil)))
noncomputable def pa42 : List AV := [pv33, pv33]
noncomputable def pr42 : AV := (B true)
theorem pm42 : pr42.fresh = true ∧ CallPure PP 39 pa42 pr42 :=
  callPure_ran (n := 60) (lookN_ok pb19Ok.1 pb19Ok.2 mixed 100000 60).1 (by kernel_rfl) (by kernel_rfl)
noncomputable def pb20 : Look := lookOf [(151, true, sameE), (148, true, compareE), (39, false, memoM 60 [(pa42, pr42)])]
theorem pb20Ok : LookOk PP pb20 ∧ LookFr pb20 :=
  lookOf_cons (fun args => same_call (fn := (PP.funcs[151]?).getD default) (by kernel_rfl) (by kernel_rfl) (by kernel_rfl) (by kernel_rfl) (by kernel_rfl) args) (fun args => sameE_framed args) (lookOf_cons (fun args => compare_call (fn := (PP.funcs[148]?).getD default) (by kernel_rfl) (by kernel_rfl) (by kernel_rfl) (by kernel_rfl) (by kernel_rfl) args) (fun args => compareE_framed args) (lookOf_cons (fun args => memo_call (MemoOk.cons pm42.1 pm42.2 (MemoOk.nil)) args) (fun args => memo_framed 60 _ args) (lookOf_nil)))
noncomputable def pa43 : List AV := [pv33, pv33]
noncomputable def pr43 : AV := (B true)
theorem pm43 : pr43.fresh = true ∧ CallPure PP 21 pa43 pr43 :=
  callPure_ran (n := 60) (lookN_ok pb20Ok.1 pb20Ok.2 mixed 100000 60).1 (by kernel_rfl) (by kernel_rfl)
noncomputable def pb21 : Look := lookOf [(151, true, sameE), (148, true, compareE), (21, false, memoM 60 [(pa43, pr43)])]
theorem pb21Ok : LookOk PP pb21 ∧ LookFr pb21 :=
  lookOf_cons (fun args => same_call (fn := (PP.funcs[151]?).getD default) (by kernel_rfl) (by kernel_rfl) (by kernel_rfl) (by kernel_rfl) (by kernel_rfl) args) (fun args => sameE_framed args) (lookOf_cons (fun args => compare_call (fn := (PP.funcs[148]?).getD default) (by kernel_rfl) (by kernel_rfl) (by kernel_rfl) (by kernel_rfl) (by kernel_rfl) args) (fun args => compareE_framed args) (lookOf_cons (fun args => memo_call (MemoOk.cons pm43.1 pm43.2 (MemoOk.nil)) args) (fun args => memo_framed 60 _ args) (lookOf_nil)))
noncomputable def pa44 : List AV := [pv31]
noncomputable def pr44 : AV := (I .i64 (0))
theorem pm44 : pr44.fresh = true ∧ CallPure PP 66 pa44 pr44 :=
  callPure_ran (n := 60) (lookN_ok pb21Ok.1 pb21Ok.2 mixed 100000 60).1 (by kernel_rfl) (by kernel_rfl)
noncomputable def pa45 : List AV := [(I .u16 (1)), pv4, pv4]
noncomputable def pr45 : AV := (I .i64 (0))
theorem pm45 : pr45.fresh = true ∧ CallPure PP 80 pa45 pr45 :=
  callPure_ran (n := 60) (lookN_ok pb0Ok.1 pb0Ok.2 mixed 100000 60).1 (by kernel_rfl) (by kernel_rfl)
noncomputable def pb22 : Look := lookOf [(151, true, sameE), (148, true, compareE), (80, false, memoM 60 [(pa45, pr45)])]
theorem pb22Ok : LookOk PP pb22 ∧ LookFr pb22 :=
  lookOf_cons (fun args => same_call (fn := (PP.funcs[151]?).getD default) (by kernel_rfl) (by kernel_rfl) (by kernel_rfl) (by kernel_rfl) (by kernel_rfl) args) (fun args => sameE_framed args) (lookOf_cons (fun args => compare_call (fn := (PP.funcs[148]?).getD default) (by kernel_rfl) (by kernel_rfl) (by kernel_rfl) (by kernel_rfl) (by kernel_rfl) args) (fun args => compareE_framed args) (lookOf_cons (fun args => memo_call (MemoOk.cons pm45.1 pm45.2 (MemoOk.nil)) args) (fun args => memo_framed 60 _ args) (lookOf_nil)))
noncomputable def pa46 : List AV := [(I .u16 (1)), pv4, pv4]
noncomputable def pr46 : AV := (B true)
theorem pm46 : pr46.fresh = true ∧ CallPure PP 96 pa46 pr46 :=
  callPure_ran (n := 60) (lookN_ok pb22Ok.1 pb22Ok.2 mixed 100000 60).1 (by kernel_rfl) (by kernel_rfl)
noncomputable def pv34 : AV := (V false 4 [(G [(N), (N), (N), (V false 1 [(I .u8 (10)), (I .u8 (0)), (I .u8 (0)), (I .u8 (2))])])])
noncomputable def pb23 : Look := lookOf [(151, true, sameE), (148, true, compareE), (96, false, memoM 60 [(pa46, pr46)])]
theorem pb23Ok : LookOk PP pb23 ∧ LookFr pb23 :=
  lookOf_cons (fun args => same_call (fn := (PP.funcs[151]?).getD default) (by kernel_rfl) (by kernel_rfl) (by kernel_rfl) (by kernel_rfl) (by kernel_rfl) args) (fun args => sameE_framed args) (lookOf_cons (fun args => compare_call (fn := (PP.funcs[148]?).getD default) (by kernel_rfl) (by kernel_rfl) (by kernel_rfl) (by kernel_rfl) (by kernel_rfl) args) (fun args => compareE_framed args) (lookOf_cons (fun args => memo_call (MemoOk.cons pm46.1 pm46.2 (MemoOk.nil)) args) (fun args => memo_framed 60 _ args) (lookOf_nil)))
noncomputable def pa47 : List AV := [(I .u16 (1)), pv34, pv4]
noncomputable def pr47 : AV := (B true)
theorem pm47 : pr47.fresh = true ∧ CallPure PP 57 pa47 pr47 :=
  callPure_ran (n := 60) (lookN_ok pb23Ok.1 pb23Ok.2 mixed 100000 60).1 (by kernel_rfl) (by kernel_rfl)
noncomputable def pv35 : AV := (G [(V false 1 [(S [110, 115]), (S [97])]), (I .u16 (1)), (I .u16 (1)), (I .u32 (60)), (V false 4 [(G [(N), (N), (N), (V false 1 [(I .u8 (10)), (I .u8 (0)), (I .u8 (0)), (I .u8 (2))])])])])
noncomputable def pb24 : Look := lookOf [(151, true, sameE), (148, true, compareE), (57, false, memoM 60 [(pa47, pr47)])]
theorem pb24Ok : LookOk PP pb24 ∧ LookFr pb24 :=
  lookOf_cons (fun args => same_call (fn := (PP.funcs[151]?).getD default) (by kernel_rfl) (by kernel_rfl) (by kernel_rfl) (by kernel_rfl) (by kernel_rfl) args) (fun args => sameE_framed args) (lookOf_cons (fun args => compare_call (fn := (PP.funcs[148]?).getD default) (by kernel_rfl) (by kernel_rfl) (by kernel_rfl) (by kernel_rfl) (by kernel_rfl) args) (fun args => compareE_framed args) (lookOf_cons (fun args => memo_call (MemoOk.cons pm47.1 pm47.2 (MemoOk.nil)) args) (fun args => memo_framed 60 _ args) (lookOf_nil)))
noncomputable def pa48 : List AV := [pv35, pv35]
noncomputable def pr48 : AV := (B true)
theorem pm48 : pr48.fresh = true ∧ CallPure PP 39 pa48 pr48 :=
  callPure_ran (n := 60) (lookN_ok pb24Ok.1 pb24Ok.2 mixed 100000 60).1 (by kernel_rfl) (by kernel_rfl)
noncomputable def pb25 : Look := lookOf [(151, true, sameE), (148, true, compareE), (39, false, memoM 60 [(pa48, pr48)])]
theorem pb25Ok : LookOk PP pb25 ∧ LookFr pb25 :=
  lookOf_cons (fun args => same_call (fn := (PP.funcs[151]?).getD default) (by kernel_rfl) (by kernel_rfl) (by kernel_rfl) (by kernel_rfl) (by kernel_rfl) args) (fun args => sameE_framed args) (lookOf_cons (fun args => compare_call (fn := (PP.funcs[148]?).getD default) (by kernel_rfl) (by kernel_rfl) (by kernel_rfl) (by kernel_rfl) (by kernel_rfl) args) (fun args => compareE_framed args) (lookOf_cons (fun args => memo_call (MemoOk.cons pm48.1 pm48.2 (MemoOk.nil)) args) (fun args => memo_framed 60 _ args) (lookOf_nil)))
noncomputable def pa49 : List AV := [pv35, pv35]
noncomputable def pr49 : AV := (B true)
theorem pm49 : pr49.fresh = true ∧ CallPure PP 21 pa49 pr49 :=
  callPure_ran (n := 60) (lookN_ok pb25Ok.1 pb25Ok.2 mixed 100000 60).1 (by kernel_rfl) (by kernel_rfl)
noncomputable def pb26 : Look := lookOf [(151, true, sameE), (148, true, compareE), (21, false, memoM 60 [(pa49, pr49)])]
theorem pb26Ok : LookOk PP pb26 ∧ LookFr pb26 :=
  lookOf_cons (fun args => same_call (fn := (PP.funcs[151]?).getD default) (by kernel_rfl) (by kernel_rfl) (by kernel_rfl) (by kernel_rfl) (by kernel_rfl) args) (fun args => sameE_framed args) (lookOf_cons (fun args => compare_call (fn := (PP.funcs[148]?).getD default) (by kernel_rfl) (by kernel_rfl) (by kernel_rfl) (by kernel_rfl) (by kernel_rfl) args) (fun args => compareE_framed args) (lookOf_cons (fun args => memo_call (MemoOk.cons pm49.1 pm49.2 (MemoOk.nil)) args) (fun args => memo_framed 60 _ args) (lookOf_nil)))
noncomputable def pa50 : List AV := [pv31]
noncomputable def pr50 : AV := (I .i64 (0))
theorem pm50 : pr50.fresh = true ∧ CallPure PP 67 pa50 pr50 :=
  callPure_ran (n := 60) (lookN_ok pb26Ok.1 pb26Ok.2 mixed 100000 60).1 (by kernel_rfl) (by kernel_rfl)
noncomputable def pa51 : List AV := [pv31]
noncomputable def pr51 : AV := (I .i64 (0))
theorem pm51 : pr51.fresh = true ∧ CallPure PP 68 pa51 pr51 :=
  callPure_ran (n := 60) (lookN_ok pb0Ok.1 pb0Ok.2 mixed 100000 60).1 (by kernel_rfl) (by kernel_rfl)
noncomputable def pb27 : Look := lookOf [(151, true, sameE), (148, true, compareE), (62, false, memoM 60 [(pa38, pr38)]), (66, false, memoM 60 [(pa44, pr44)]), (67, false, memoM 60 [(pa50, pr50)]), (68, false, memoM 60 [(pa51, pr51)])]
theorem pb27Ok : LookOk PP pb27 ∧ LookFr pb27 :=
  lookOf_cons (fun args => same_call (fn := (PP.funcs[151]?).getD default) (by kernel_rfl) (by kernel_rfl) (by kernel_rfl) (by kernel_rfl) (by kernel_rfl) args) (fun args => sameE_framed args) (lookOf_cons (fun args => compare_call (fn := (PP.funcs[148]?).getD default) (by kernel_rfl) (by kernel_rfl) (by kernel_rfl) (by kernel_rfl) (by kernel_rfl) args) (fun args => compareE_framed args) (lookOf_cons (fun args => memo_call (MemoOk.cons pm38.1 pm38.2 (MemoOk.nil)) args) (fun args => memo_framed 60 _ args) (lookOf_cons (fun args => memo_call (MemoOk.cons pm44.1 pm44.2 (MemoOk.nil)) args) (fun args => memo_framed 60 _ args) (lookOf_cons (fun args => memo_call (MemoOk.cons pm50.1 pm50.2 (MemoOk.nil)) args) (fun args => memo_framed 60 _ args) (lookOf_cons (fun args => memo_call (MemoOk.cons pm51.1 pm51.2 (MemoOk.nil)) args) (fun args => memo_framed 60 _ args) (lookOf_nil))))))
noncomputable def pa52 : List AV := [pv31]
noncomputable def pr52 : AV := (I .i64 (0))
theorem pm52 : pr52.fresh = true ∧ CallPure PP 28 pa52 pr52 :=
  callPure_ran (n := 60) (lookN_ok pb27Ok.1 pb27Ok.2 mixed 100000 60).1 (by kernel_rfl) (by kernel_rfl)
noncomputable def pb28 : Look := lookOf [(151, true, sameE), (148, true, compareE), (28, false, memoM 60 [(pa52, pr52)])]
theorem pb28Ok : LookOk PP pb28 ∧ LookFr pb28 :=
  lookOf_cons (fun args => same_call (fn := (PP.funcs[151]?).getD default) (by kernel_rfl) (by kernel_rfl) (by kernel_rfl) (by kernel_rfl) (by kernel_rfl) args) (fun args => sameE_framed args) (lookOf_cons (fun args => compare_call (fn := (PP.funcs[148]?).getD default) (by kernel_rfl) (by kernel_rfl) (by kernel_rfl) (by kernel_rfl) (by kernel_rfl) args) (fun args => compareE_framed args) (lookOf_cons (fun args => memo_call (MemoOk.cons pm52.1 pm52.2 (MemoOk.nil)) args) (fun args => memo_framed 60 _ args) (lookOf_nil)))
noncomputable def pa53 : List AV := [pv31, (V false 1 [(S [119, 119, 119]), (S [97])]), (I .u16 (1))]
noncomputable def pr53 : AV := (I .i64 (0))
theorem pm53 : pr53.fresh = true ∧ CallPure PP 14 pa53 pr53 :=
  callPure_ran (n := 60) (lookN_ok pb28Ok.1 pb28Ok.2 mixed 100000 60).1 (by kernel_rfl) (by kernel_rfl)
noncomputable def pb29 : Look := lookOf [(151, true, sameE), (148, true, compareE), (24, false, memoM 60 [(pa34, pr34)])]
theorem pb29Ok : LookOk PP pb29 ∧ LookFr pb29 :=
  lookOf_cons (fun args => same_call (fn := (PP.funcs[151]?).getD default) (by kernel_rfl) (by kernel_rfl) (by kernel_rfl) (by kernel_rfl) (by kernel_rfl) args) (fun args => sameE_framed args) (lookOf_cons (fun args => compare_call (fn := (PP.funcs[148]?).getD default) (by kernel_rfl) (by kernel_rfl) (by kernel_rfl) (by kernel_rfl) (by kernel_rfl) args) (fun args => compareE_framed args) (lookOf_cons (fun args => memo_call (MemoOk.cons pm34.1 pm34.2 (MemoOk.nil)) args) (fun args => memo_framed 60 _ args) (lookOf_nil)))
noncomputable def pa54 : List AV := [pv28, (V false 1 [(S [119, 119, 119]), (S [97])])]
noncomputable def pr54 : AV := (I .i64 (0))
theorem pm54 : pr54.fresh = true ∧ CallPure PP 119 pa54 pr54 :=
  callPure_ran (n := 60) (lookN_ok pb29Ok.1 pb29Ok.2 mixed 100000 60).1 (by kernel_rfl) (by kernel_rfl)
noncomputable def pa55 : List AV := [pv28, (V false 1 [(S [119, 119, 119]), (S [97])])]
noncomputable def pr55 : AV := (V true 1 [(S [119, 119, 119]), (S [97])])
theorem pm55 : pr55.fresh = true ∧ CallPure PP 120 pa55 pr55 :=
  callPure_ran (n := 60) (lookN_ok pb0Ok.1 pb0Ok.2 mixed 100000 60).1 (by kernel_rfl) (by kernel_rfl)
noncomputable def pv36 : AV := (T [(G [(I .u8 (1)), (V true 1 [(S [119, 119, 119]), (S [97])]), (V true 1 [(S [119, 119, 119]), (S [97])])]), (I .i64 (0))])
noncomputable def pb30 : Look := lookOf [(151, true, sameE), (148, true, compareE), (119, false, memoM 60 [(pa54, pr54)]), (120, false, memoM 60 [(pa55, pr55)])]
theorem pb30Ok : LookOk PP pb30 ∧ LookFr pb30 :=
  lookOf_cons (fun args => same_call (fn := (PP.funcs[151]?).getD default) (by kernel_rfl) (by kernel_rfl) (by kernel_rfl) (by kernel_rfl) (by kernel_rfl) args) (fun args => sameE_framed args) (lookOf_cons (fun args => compare_call (fn := (PP.funcs[148]?).getD default) (by kernel_rfl) (by kernel_rfl) (by kernel_rfl) (by kernel_rfl) (by kernel_rfl) args) (fun args => compareE_framed args) (lookOf_cons (fun args => memo_call (MemoOk.cons pm54.1 pm54.2 (MemoOk.nil)) args) (fun args => memo_framed 60 _ args) (lookOf_cons (fun args => memo_call (MemoOk.cons pm55.1 pm55.2 (MemoOk.nil)) args) (fun args => memo_framed 60 _ args) (lookOf_nil))))
noncomputable def pa56 : List AV := [pv28, (V false 1 [(S [119, 119, 119]), (S [97])])]
noncomputable def pr56 : AV := pv36
theorem pm56 : pr56.fresh = true ∧ CallPure PP 76 pa56 pr56 :=
  callPure_ran (n := 60) (lookN_ok pb30Ok.1 pb30Ok.2 mixed 100000 60).1 (by kernel_rfl) (by kernel_rfl)
noncomputable def pb31 : Look := lookOf [(151, true, sameE), (148, true, compareE), (76, false, memoM 60 [(pa56, pr56)])]
theorem pb31Ok : LookOk PP pb31 ∧ LookFr pb31 :=
  lookOf_cons (fun args => same_call (fn := (PP.funcs[151]?).getD default) (by kernel_rfl) (by kernel_rfl) (by kernel_rfl) (by kernel_rfl) (by kernel_rfl) args) (fun args => sameE_framed args) (lookOf_cons (fun args => compare_call (fn := (PP.funcs[148]?).getD default) (by kernel_rfl) (by kernel_rfl) (by kernel_rfl) (by kernel_rfl) (by kernel_rfl) args) (fun args => compareE_framed args) (lookOf_cons (fun args => memo_call (MemoOk.cons pm56.1 pm56.2 (MemoOk.nil)) args) (fun args => memo_framed 60 _ args) (lookOf_nil)))
noncomputable def pa57 : List AV := [pv28, (V false 1 [(S [119, 119, 119]), (S [97])]), (I .u16 (1))]
noncomputable def pr57 : AV := pv36
theorem pm57 : pr57.fresh = true ∧ CallPure PP 37 pa57 pr57 :=
  callPure_ran (n := 60) (lookN_ok pb31Ok.1 pb31Ok.2 mixed 100000 60).1 (by kernel_rfl) (by kernel_rfl)
noncomputable def pv37 : AV := (T [(G [(I .u8 (1)), (V true 5 [(G [(V true 1 [(S [119, 119, 119]), (S [97])]), (I .u16 (5)), (I .u16 (1)), (I .u32 (60)), (V true 4 [(G [(V true 1 [(V true 1 [(S [109]), (S [97])])]), (N), (N), (N)])])])]), (V true 1 [(S [109]), (S [97])])]), (I .i64 (0))])
noncomputable def pb32 : Look := lookOf [(151, true, sameE), (148, true, compareE), (37, false, memoM 60 [(pa57, pr57)])]
theorem pb32Ok : LookOk PP pb32 ∧ LookFr pb32 :=
  lookOf_cons (fun args => same_call (fn := (PP.funcs[151]?).getD default) (by kernel_rfl) (by kernel_rfl) (by kernel_rfl) (by kernel_rfl) (by kernel_rfl) args) (fun args => sameE_framed args) (lookOf_cons (fun args => compare_call (fn := (PP.funcs[148]?).getD default) (by kernel_rfl) (by kernel_rfl) (by kernel_rfl) (by kernel_rfl) (by kernel_rfl) args) (fun args => compareE_framed args) (lookOf_cons (fun args => memo_call (MemoOk.cons pm57.1 pm57.2 (MemoOk.nil)) args) (fun args => memo_framed 60 _ args) (lookOf_nil)))
noncomputable def pa58 : List AV := [pv28, (V false 1 [(S [119, 119, 119]), (S [97])]), (I .u16 (1))]
noncomputable def pr58 : AV := pv37
theorem pm58 : pr58.fresh = true ∧ CallPure PP 20 pa58 pr58 :=
  callPure_ran (n := 60) (lookN_ok pb32Ok.1 pb32Ok.2 mixed 100000 60).1 (by kernel_rfl) (by kernel_rfl)
noncomputable def pa59 : List AV := [pv28, (V false 1 [(S [109]), (S [97])])]
noncomputable def pr59 : AV := (I .i64 (0))
theorem pm59 : pr59.fresh = true ∧ CallPure PP 119 pa59 pr59 :=
  callPure_ran (n := 60) (lookN_ok pb29Ok.1 pb29Ok.2 mixed 100000 60).1 (by kernel_rfl) (by kernel_rfl)
noncomputable def pa60 : List AV := [pv28, (V false 1 [(S [109]), (S [97])])]
noncomputable def pr60 : AV := (V true 1 [(S [109]), (S [97])])
theorem pm60 : pr60.fresh = true ∧ CallPure PP 120 pa60 pr60 :=
  callPure_ran (n := 60) (lookN_ok pb0Ok.1 pb0Ok.2 mixed 100000 60).1 (by kernel_rfl) (by kernel_rfl)
noncomputable def pv38 : AV := (T [(G [(I .u8 (1)), (V true 1 [(S [109]), (S [97])]), (V true 1 [(S [109]), (S [97])])]), (I .i64 (0))])
noncomputable def pb33 : Look := lookOf [(151, true, sameE), (148, true, compareE), (119, false, memoM 60 [(pa59, pr59)]), (120, false, memoM 60 [(pa60, pr60)])]
theorem pb33Ok : LookOk PP pb33 ∧ LookFr pb33 :=
  lookOf_cons (fun args => same_call (fn := (PP.funcs[151]?).getD default) (by kernel_rfl) (by kernel_rfl) (by kernel_rfl) (by kernel_rfl) (by kernel_rfl) args) (fun args => sameE_framed args) (lookOf_cons (fun args => compare_call (fn := (PP.funcs[148]?).getD default) (by kernel_rfl) (by kernel_rfl) (by kernel_rfl) (by kernel_rfl) (by kernel_rfl) args) (fun args => compareE_framed args) (lookOf_cons (fun args => memo_call (MemoOk.cons pm59.1 pm59.2 (MemoOk.nil)) args) (fun args => memo_framed 60 _ args) (lookOf_cons (fun args => memo_call (MemoOk.cons pm60.1 pm60.2 (MemoOk.nil)) args) (fun args => memo_framed 60 _ args) (lookOf_nil))))
noncomputable def pa61 : List AV := [pv28, (V false 1 [(S [109]), (S [97])])]
noncomputable def pr61 : AV := pv38
theorem pm61 : pr61.fresh = true ∧ CallPure PP 76 pa61 pr61 :=
  callPure_ran (n := 60) (lookN_ok pb33Ok.1 pb33Ok.2 mixed 100000 60).1 (by kernel_rfl) (by kernel_rfl)
noncomputable def pb34 : Look := lookOf [(151, true, sameE), (148, true, compareE), (76, false, memoM 60 [(pa61, pr61)])]
theorem pb34Ok : LookOk PP pb34 ∧ LookFr pb34 :=
  lookOf_cons (fun args => same_call (fn := (PP.funcs[151]?).getD default) (by kernel_rfl) (by kernel_rfl) (by kernel_rfl) (by kernel_rfl) (by kernel_rfl) args) (fun args => sameE_framed args) (lookOf_cons (fun args => compare_call (fn := (PP.funcs[148]?).getD default) (by kernel_rfl) (by kernel_rfl) (by kernel_rfl) (by kernel_rfl) (by kernel_rfl) args) (fun args => compareE_framed args) (lookOf_cons (fun args => memo_call (MemoOk.cons pm61.1 pm61.2 (MemoOk.nil)) args) (fun args => memo_framed 60 _ args) (lookOf_nil)))
noncomputable def pa62 : List AV := [pv28, (V false 1 [(S [109]), (S [97])]), (I .u16 (1))]
noncomputable def pr62 : AV := pv38
theorem pm62 : pr62.fresh = true ∧ CallPure PP 37 pa62 pr62 :=
  callPure_ran (n := 60) (lookN_ok pb34Ok.1 pb34Ok.2 mixed 100000 60).1 (by kernel_rfl) (by kernel_rfl)
noncomputable def pv39 : AV := (T [(G [(I .u8 (0)), (V true 5 [(G [(V true 1 [(S [109]), (S [97])]), (I .u16 (1)), (I .u16 (1)), (I .u32 (60)), (V true 4 [(G [(N), (N), (N), (V true 1 [(I .u8 (10)), (I .u8 (0)), (I .u8 (0)), (I .u8 (9))])])])])]), (N)]), (I .i64 (0))])
noncomputable def pb35 : Look := lookOf [(151, true, sameE), (148, true, compareE), (37, false, memoM 60 [(pa62, pr62)])]
theorem pb35Ok : LookOk PP pb35 ∧ LookFr pb35 :=
  lookOf_cons (fun args => same_call (fn := (PP.funcs[151]?).getD default) (by kernel_rfl) (by kernel_rfl) (by kernel_rfl) (by kernel_rfl) (by kernel_rfl) args) (fun args => sameE_framed args) (lookOf_cons (fun args => compare_call (fn := (PP.funcs[148]?).getD default) (by kernel_rfl) (by kernel_rfl) (by kernel_rfl) (by kernel_rfl) (by kernel_rfl) args) (fun args => compareE_framed args) (lookOf_cons (fun args => memo_call (MemoOk.cons pm62.1 pm62.2 (MemoOk.nil)) args) (fun args => memo_framed 60 _ args) (lookOf_nil)))
noncomputable def pa63 : List AV := [pv28, (V false 1 [(S [109]), (S [97])]), (I .u16 (1))]
noncomputable def pr63 : AV := pv39
theorem pm63 : pr63.fresh = true ∧ CallPure PP 20 pa63 pr63 :=
  callPure_ran (n := 60) (lookN_ok pb35Ok.1 pb35Ok.2 mixed 100000 60).1 (by kernel_rfl) (by kernel_rfl)
noncomputable def pv40 : AV := (T [(G [(I .i64 (0)), (B false), (V true 5 [(G [(V true 1 [(S [119, 119, 119]), (S [97])]), (I .u16 (5)), (I .u16 (1)), (I .u32 (60)), (V true 4 [(G [(V true 1 [(V true 1 [(S [109]), (S [97])])]), (N), (N), (N)])])]), (G [(V true 1 [(S [109]), (S [97])]), (I .u16 (1)), (I .u16 (1)), (I .u32 (60)), (V true 4 [(G [(N), (N), (N), (V true 1 [(I .u8 (10)), (I .u8 (0)), (I .u8 (0)), (I .u8 (9))])])])])]), (N), (N)]), (I .i64 (0))])
noncomputable def pb36 : Look := lookOf [(151, true, sameE), (148, true, compareE), (14, false, memoM 60 [(pa53, pr53)]), (20, false, memoM 60 [(pa58, pr58), (pa63, pr63)])]
theorem pb36Ok : LookOk PP pb36 ∧ LookFr pb36 :=
  lookOf_cons (fun args => same_call (fn := (PP.funcs[151]?).getD default) (by kernel_rfl) (by kernel_rfl) (by kernel_rfl) (by kernel_rfl) (by kernel_rfl) args) (fun args => sameE_framed args) (lookOf_cons (fun args => compare_call (fn := (PP.funcs[148]?).getD default) (by kernel_rfl) (by kernel_rfl) (by kernel_rfl) (by kernel_rfl) (by kernel_rfl) args) (fun args => compareE_framed args) (lookOf_cons (fun args => memo_call (MemoOk.cons pm53.1 pm53.2 (MemoOk.nil)) args) (fun args => memo_framed 60 _ args) (lookOf_cons (fun args => memo_call (MemoOk.cons pm58.1 pm58.2 (MemoOk.cons pm63.1 pm63.2 (MemoOk.nil))) args) (fun args => memo_framed 60 _ args) (lookOf_nil))))
noncomputable def pa64 : List AV := [pv31, (V false 1 [(S [119, 119, 119]), (S [97])]), (I .u16 (1))]
noncomputable def pr64 : AV := pv40
theorem pm64 : pr64.fresh = true ∧ CallPure PP 5 pa64 pr64 :=
  callPure_ran (n := 60) (lookN_ok pb36Ok.1 pb36Ok.2 mixed 100000 60).1 (by kernel_rfl) (by kernel_rfl)
noncomputable def pa65 : List AV := [pv31, (V false 1 [(S [111]), (S [97])]), (I .u16 (1))]
noncomputable def pr65 : AV := (I .i64 (0))
theorem pm65 : pr65.fresh = true ∧ CallPure PP 14 pa65 pr65 :=
  callPure_ran (n := 60) (lookN_ok pb28Ok.1 pb28Ok.2 mixed 100000 60).1 (by kernel_rfl) (by kernel_rfl)
noncomputable def pa66 : List AV := [pv28, (V false 1 [(S [111]), (S [97])])]
noncomputable def pr66 : AV := (I .i64 (0))
theorem pm66 : pr66.fresh = true ∧ CallPure PP 119 pa66 pr66 :=
  callPure_ran (n := 60) (lookN_ok pb29Ok.1 pb29Ok.2 mixed 100000 60).1 (by kernel_rfl) (by kernel_rfl)
noncomputable def pa67 : List AV := [pv28, (V false 1 [(S [111]), (S [97])])]
noncomputable def pr67 : AV := (V true 1 [(S [111]), (S [97])])
theorem pm67 : pr67.fresh = true ∧ CallPure PP 120 pa67 pr67 :=
  callPure_ran (n := 60) (lookN_ok pb0Ok.1 pb0Ok.2 mixed 100000 60).1 (by kernel_rfl) (by kernel_rfl)
noncomputable def pv41 : AV := (T [(G [(I .u8 (1)), (V true 1 [(S [111]), (S [97])]), (V true 1 [(S [111]), (S [97])])]), (I .i64 (0))])
noncomputable def pb37 : Look := lookOf [(151, true, sameE), (148, true, compareE), (119, false, memoM 60 [(pa66, pr66)]), (120, false, memoM 60 [(pa67, pr67)])]
theorem pb37Ok : LookOk PP pb37 ∧ LookFr pb37 :=
  lookOf_cons (fun args => same_call (fn := (PP.funcs[151]?).getD default) (by kernel_rfl) (by kernel_rfl) (by kernel_rfl) (by kernel_rfl) (by kernel_rfl) args) (fun args => sameE_framed args) (lookOf_cons (fun args => compare_call (fn := (PP.funcs[148]?).getD default) (by kernel_rfl) (by kernel_rfl) (by kernel_rfl) (by kernel_rfl) (by kernel_rfl) args) (fun args => compareE_framed args) (lookOf_cons (fun args => memo_call (MemoOk.cons pm66.1 pm66.2 (MemoOk.nil)) args) (fun args => memo_framed 60 _ args) (lookOf_cons (fun args => memo_call (MemoOk.cons pm67.1 pm67.2 (MemoOk.nil)) args) (fun args => memo_framed 60 _ args) (lookOf_nil))))
noncomputable def pa68 : List AV := [pv28, (V false 1 [(S [111]), (S [97])])]
noncomputable def pr68 : AV := pv41
theorem pm68 : pr68.fresh = true ∧ CallPure PP 76 pa68 pr68 :=
  callPure_ran (n := 60) (lookN_ok pb37Ok.1 pb37Ok.2 mixed 100000 60).1 (by kernel_rfl) (by kernel_rfl)
noncomputable def pb38 : Look := lookOf [(151, true, sameE), (148, true, compareE), (76, false, memoM 60 [(pa68, pr68)])]
theorem pb38Ok : LookOk PP pb38 ∧ LookFr pb38 :=
  lookOf_cons (fun args => same_call (fn := (PP.funcs[151]?).getD default) (by kernel_rfl) (by kernel_rfl) (by kernel_rfl) (by kernel_rfl) (by kernel_rfl) args) (fun args => sameE_framed args) (lookOf_cons (fun args => compare_call (fn := (PP.funcs[148]?).getD default) (by kernel_rfl) (by kernel_rfl) (by kernel_rfl) (by kernel_rfl) (by kernel_rfl) args) (fun args => compareE_framed args) (lookOf_cons (fun args => memo_call (MemoOk.cons pm68.1 pm68.2 (MemoOk.nil)) args) (fun args => memo_framed 60 _ args) (lookOf_nil)))
noncomputable def pa69 : List AV := [pv28, (V false 1 [(S [111]), (S [97])]), (I .u16 (1))]
noncomputable def pr69 : AV := pv41
theorem pm69 : pr69.fresh = true ∧ CallPure PP 37 pa69 pr69 :=
  callPure_ran (n := 60) (lookN_ok pb38Ok.1 pb38Ok.2 mixed 100000 60).1 (by kernel_rfl) (by kernel_rfl)
noncomputable def pv42 : AV := (T [(G [(I .u8 (1)), (V true 5 [(G [(V true 1 [(S [111]), (S [97])]), (I .u16 (5)), (I .u16 (1)), (I .u32 (60)), (V true 4 [(G [(V true 1 [(V true 1 [(S [110, 115]), (S [114, 111, 111, 116])])]), (N), (N), (N)])])])]), (V true 1 [(S [110, 115]), (S [114, 111, 111, 116])])]), (I .i64 (0))])
noncomputable def pb39 : Look := lookOf [(151, true, sameE), (148, true, compareE), (37, false, memoM 60 [(pa69, pr69)])]
theorem pb39Ok : LookOk PP pb39 ∧ LookFr pb39 :=
  lookOf_cons (fun args => same_call (fn := (PP.funcs[151]?).getD default) (by kernel_rfl) (by kernel_rfl) (by kernel_rfl) (by kernel_rfl) (by kernel_rfl) args) (fun args => sameE_framed args) (lookOf_cons (fun args => compare_call (fn := (PP.funcs[148]?).getD default) (by kernel_rfl) (by kernel_rfl) (by kernel_rfl) (by kernel_rfl) (by kernel_rfl) args) (fun args => compareE_framed args) (lookOf_cons (fun args => memo_call (MemoOk.cons pm69.1 pm69.2 (MemoOk.nil)) args) (fun args => memo_framed 60 _ args) (lookOf_nil)))
noncomputable def pa70 : List AV := [pv28, (V false 1 [(S [111]), (S [97])]), (I .u16 (1))]
noncomputable def pr70 : AV := pv42
theorem pm70 : pr70.fresh = true ∧ CallPure PP 20 pa70 pr70 :=
  callPure_ran (n := 60) (lookN_ok pb39Ok.1 pb39Ok.2 mixed 100000 60).1 (by kernel_rfl) (by kernel_rfl)
noncomputable def pb40 : Look := lookOf [(151, true, sameE), (148, true, compareE), (24, false, memoM 60 [(pa12, pr12)])]
theorem pb40Ok : LookOk PP pb40 ∧ LookFr pb40 :=
  lookOf_cons (fun args => same_call (fn := (PP.funcs[151]?).getD default) (by kernel_rfl) (by kernel_rfl) (by kernel_rfl) (by kernel_rfl) (by kernel_rfl) args) (fun args => sameE_framed args) (lookOf_cons (fun args => compare_call (fn := (PP.funcs[148]?).getD default) (by kernel_rfl) (by kernel_rfl) (by kernel_rfl) (by kernel_rfl) (by kernel_rfl) args) (fun args => compareE_framed args) (lookOf_cons (fun args => memo_call (MemoOk.cons pm12.1 pm12.2 (MemoOk.nil)) args) (fun args => memo_framed 60 _ args) (lookOf_nil)))
noncomputable def pa71 : List AV := [pv9, (V false 1 [(S [110, 115]), (S [114, 111, 111, 116])])]
noncomputable def pr71 : AV := (I .i64 (0))
theorem pm71 : pr71.fresh = true ∧ CallPure PP 119 pa71 pr71 :=
  callPure_ran (n := 60) (lookN_ok pb40Ok.1 pb40Ok.2 mixed 100000 60).1 (by kernel_rfl) (by kernel_rfl)
noncomputable def pa72 : List AV := [pv9, (V false 1 [(S [110, 115]), (S [114, 111, 111, 116])])]
noncomputable def pr72 : AV := (V true 1 [(S [110, 115]), (S [114, 111, 111, 116])])
theorem pm72 : pr72.fresh = true ∧ CallPure PP 120 pa72 pr72 :=
  callPure_ran (n := 60) (lookN_ok pb0Ok.1 pb0Ok.2 mixed 100000 60).1 (by kernel_rfl) (by kernel_rfl)
noncomputable def pv43 : AV := (T [(G [(I .u8 (1)), (V true 1 [(S [110, 115]), (S [114, 111, 111, 116])]), (V true 1 [(S [110, 115]), (S [114, 111, 111, 116])])]), (I .i64 (0))])
noncomputable def pb41 : Look := lookOf [(151, true, sameE), (148, true, compareE), (119, false, memoM 60 [(pa71, pr71)]), (120, false, memoM 60 [(pa72, pr72)])]
theorem pb41Ok : LookOk PP pb41 ∧ LookFr pb41 :=
  lookOf_cons (fun args => same_call (fn := (PP.funcs[151]?).getD default) (by kernel_rfl) (by kernel_rfl) (by kernel_rfl) (by kernel_rfl) (by kernel_rfl) args) (fun args => sameE_framed args) (lookOf_cons (fun args => compare_call (fn := (PP.funcs[148]?).getD default) (by kernel_rfl) (by kernel_rfl) (by kernel_rfl) (by kernel_rfl) (by kernel_rfl) args) (fun args => compareE_framed args) (lookOf_cons (fun args => memo_call (MemoOk.cons pm71.1 pm71.2 (MemoOk.nil)) args) (fun args => memo_framed 60 _ args) (lookOf_cons (fun args => memo_call (MemoOk.cons pm72.1 pm72.2 (MemoOk.nil)) args) (fun args => memo_framed 60 _ args) (lookOf_nil))))
noncomputable def pa73 : List AV := [pv9, (V false 1 [(S [110, 115]), (S [114, 111, 111, 116])])]
noncomputable def pr73 : AV := pv43
theorem pm73 : pr73.fresh = true ∧ CallPure PP 76 pa73 pr73 :=
  callPure_ran (n := 60) (lookN_ok pb41Ok.1 pb41Ok.2 mixed 100000 60).1 (by kernel_rfl) (by kernel_rfl)
noncomputable def pb42 : Look := lookOf [(151, true, sameE), (148, true, compareE), (76, false, memoM 60 [(pa73, pr73)])]
theorem pb42Ok : LookOk PP pb42 ∧ LookFr pb42 :=
  lookOf_cons (fun args => same_call (fn := (PP.funcs[151]?).getD default) (by kernel_rfl) (by kernel_rfl) (by kernel_rfl) (by kernel_rfl) (by kernel_rfl) args) (fun args => sameE_framed args) (lookOf_cons (fun args => compare_call (fn := (PP.funcs[148]?).getD default) (by kernel_rfl) (by kernel_rfl) (by kernel_rfl) (by kernel_rfl) (by kernel_rfl) args) (fun args => compareE_framed args) (lookOf_cons (fun args => memo_call (MemoOk.cons pm73.1 pm73.2 (MemoOk.nil)) args) (fun args => memo_framed 60 _ args) (lookOf_nil)))
noncomputable def pa74 : List AV := [pv9, (V false 1 [(S [110, 115]), (S [114, 111, 111, 116])]), (I .u16 (1))]
noncomputable def pr74 : AV := pv43
theorem pm74 : pr74.fresh = true ∧ CallPure PP 37 pa74 pr74 :=
  callPure_ran (n := 60) (lookN_ok pb42Ok.1 pb42Ok.2 mixed 100000 60).1 (by kernel_rfl) (by kernel_rfl)
noncomputable def pv44 : AV := (T [(G [(I .u8 (0)), (V true 5 [(G [(V true 1 [(S [110, 115]), (S [114, 111, 111, 116])]), (I .u16 (1)), (I .u16 (1)), (I .u32 (60)), (V true 4 [(G [(N), (N), (N), (V true 1 [(I .u8 (10)), (I .u8 (0)), (I .u8 (0)), (I .u8 (1))])])])])]), (N)]), (I .i64 (0))])
noncomputable def pb43 : Look := lookOf [(151, true, sameE), (148, true, compareE), (37, false, memoM 60 [(pa74, pr74)])]
theorem pb43Ok : LookOk PP pb43 ∧ LookFr pb43 :=
  lookOf_cons (fun args => same_call (fn := (PP.funcs[151]?).getD default) (by kernel_rfl) (by kernel_rfl) (by kernel_rfl) (by kernel_rfl) (by kernel_rfl) args) (fun args => sameE_framed args) (lookOf_cons (fun args => compare_call (fn := (PP.funcs[148]?).getD default) (by kernel_rfl) (by kernel_rfl) (by kernel_rfl) (by kernel_rfl) (by kernel_rfl) args) (fun args => compareE_framed args) (lookOf_cons (fun args => memo_call (MemoOk.cons pm74.1 pm74.2 (MemoOk.nil)) args) (fun args => memo_framed 60 _ args) (lookOf_nil)))
noncomputable def pa75 : List AV := [pv9, (V false 1 [(S [110, 115]), (S [114, 111, 111, 116])]), (I .u16 (1))]
noncomputable def pr75 : AV := pv44
theorem pm75 : pr75.fresh = true ∧ CallPure PP 20 pa75 pr75 :=
  callPure_ran (n := 60) (lookN_ok pb43Ok.1 pb43Ok.2 mixed 100000 60).1 (by kernel_rfl) (by kernel_rfl)
noncomputable def pv45 : AV := (T [(G [(I .i64 (0)), (B false), (V true 5 [(G [(V true 1 [(S [111]), (S [97])]), (I .u16 (5)), (I .u16 (1)), (I .u32 (60)), (V true 4 [(G [(V true 1 [(V true 1 [(S [110, 115]), (S [114, 111, 111, 116])])]), (N), (N), (N)])])]), (G [(V true 1 [(S [110, 115]), (S [114, 111, 111, 116])]), (I .u16 (1)), (I .u16 (1)), (I .u32 (60)), (V true 4 [(G [(N), (N), (N), (V true 1 [(I .u8 (10)), (I .u8 (0)), (I .u8 (0)), (I .u8 (1))])])])])]), (N), (N)]), (I .i64 (0))])
noncomputable def pb44 : Look := lookOf [(151, true, sameE), (148, true, compareE), (14, false, memoM 60 [(pa65, pr65)]), (20, false, memoM 60 [(pa70, pr70), (pa75, pr75)])]
theorem pb44Ok : LookOk PP pb44 ∧ LookFr pb44 :=
  lookOf_cons (fun args => same_call (fn := (PP.funcs[151]?).getD default) (by kernel_rfl) (by kernel_rfl) (by kernel_rfl) (by kernel_rfl) (by kernel_rfl) args) (fun args => sameE_framed args) (lookOf_cons (fun args => compare_call (fn := (PP.funcs[148]?).getD default) (by kernel_rfl) (by kernel_rfl) (by kernel_rfl) (by kernel_rfl) (by kernel_rfl) args) (fun args => compareE_framed args) (lookOf_cons (fun args => memo_call (MemoOk.cons pm65.1 pm65.2 (MemoOk.nil)) args) (fun args => memo_framed 60 _ args) (lookOf_cons (fun args => memo_call (MemoOk.cons pm70.1 pm70.2 (MemoOk.cons pm75.1 pm75.2 (MemoOk.nil))) args) (fun args => memo_framed 60 _ args) (lookOf_nil))))
noncomputable def pa76 : List AV := [pv31, (V false 1 [(S [111]), (S [97])]), (I .u16 (1))]
noncomputable def pr76 : AV := pv45
theorem pm76 : pr76.fresh = true ∧ CallPure PP 5 pa76 pr76 :=
  callPure_ran (n := 60) (lookN_ok pb44Ok.1 pb44Ok.2 mixed 100000 60).1 (by kernel_rfl) (by kernel_rfl)
noncomputable def pv46 : AV := (T [(V true 1 [(V true 1 [(S [111]), (S [97])]), (V true 1 [(S [110, 115]), (S [114, 111, 111, 116])])]), (V true 1 [(I .i64 (1)), (I .i64 (0))]), (I .i64 (0))])
noncomputable def pa77 : List AV := [pv31, (V false 1 [(S [111]), (S [97])]), (I .u16 (1))]
noncomputable def pr77 : AV := pv46
theorem pm77 : pr77.fresh = true ∧ CallPure PP 6 pa77 pr77 :=
  callPure_ran (n := 60) (lookN_ok pb44Ok.1 pb44Ok.2 mixed 100000 60).1 (by kernel_rfl) (by kernel_rfl)
noncomputable def pa78 : List AV := [pv31, (V false 1 [(S [120]), (S [97])]), (I .u16 (1))]
noncomputable def pr78 : AV := (I .i64 (0))
theorem pm78 : pr78.fresh = true ∧ CallPure PP 14 pa78 pr78 :=
  callPure_ran (n := 60) (lookN_ok pb28Ok.1 pb28Ok.2 mixed 100000 60).1 (by kernel_rfl) (by kernel_rfl)
noncomputable def pa79 : List AV := [pv28, (V false 1 [(S [120]), (S [97])])]
noncomputable def pr79 : AV := (I .i64 (0))
theorem pm79 : pr79.fresh = true ∧ CallPure PP 119 pa79 pr79 :=
  callPure_ran (n := 60) (lookN_ok pb29Ok.1 pb29Ok.2 mixed 100000 60).1 (by kernel_rfl) (by kernel_rfl)
noncomputable def pa80 : List AV := [pv28, (V false 1 [(S [120]), (S [97])])]
noncomputable def pr80 : AV := (V true 1 [(S [120]), (S [97])])
theorem pm80 : pr80.fresh = true ∧ CallPure PP 120 pa80 pr80 :=
  callPure_ran (n := 60) (lookN_ok pb0Ok.1 pb0Ok.2 mixed 100000 60).1 (by kernel_rfl) (by kernel_rfl)
noncomputable def pv47 : AV := (T [(G [(I .u8 (1)), (V true 1 [(S [120]), (S [97])]), (V true 1 [(S [120]), (S [97])])]), (I .i64 (0))])
noncomputable def pb45 : Look := lookOf [(151, true, sameE), (148, true, compareE), (119, false, memoM 60 [(pa79, pr79)]), (120, false, memoM 60 [(pa80, pr80)])]
theorem pb45Ok : LookOk PP pb45 ∧ LookFr pb45 :=
  lookOf_cons (fun args => same_call (fn := (PP.funcs[151]?).getD default) (by kernel_rfl) (by kernel_rfl) (by kernel_rfl) (by kernel_rfl) (by kernel_rfl) args) (fun args => sameE_framed args) (lookOf_cons (fun args => compare_call (fn := (PP.funcs[148]?).getD default) (by kernel_rfl) (by kernel_rfl) (by kernel_rfl) (by kernel_rfl) (by kernel_rfl) args) (fun args => compareE_framed args) (lookOf_cons (fun args => memo_call (MemoOk.cons pm79.1 pm79.2 (MemoOk.nil)) args) (fun args => memo_framed 60 _ args) (lookOf_cons (fun args => memo_call (MemoOk.cons pm80.1 pm80.2 (MemoOk.nil)) args) (fun args => memo_framed 60 _ args) (lookOf_nil))))
noncomputable def pa81 : List AV := [pv28, (V false 1 [(S [120]), (S [97])])]
noncomputable def pr81 : AV := pv47
theorem pm81 : pr81.fresh = true ∧ CallPure PP 76 pa81 pr81 :=
  callPure_ran (n := 60) (lookN_ok pb45Ok.1 pb45Ok.2 mixed 100000 60).1 (by kernel_rfl) (by kernel_rfl)
noncomputable def pb46 : Look := lookOf [(151, true, sameE), (148, true, compareE), (76, false, memoM 60 [(pa81, pr81)])]
theorem pb46Ok : LookOk PP pb46 ∧ LookFr pb46 :=
  lookOf_cons (fun args => same_call (fn := (PP.funcs[151]?).getD default) (by kernel_rfl) (by kernel_rfl) (by kernel_rfl) (by kernel_rfl) (by kernel_rfl) args) (fun args => sameE_framed args) (lookOf_cons (fun args => compare_call (fn := (PP.funcs[148]?).getD default) (by kernel_rfl) (by kernel_rfl) (by kernel_rfl) (by kernel_rfl) (by kernel_rfl) args) (fun args => compareE_framed args) (lookOf_cons (fun args => memo_call (MemoOk.cons pm81.1 pm81.2 (MemoOk.nil)) args) (fun args => memo_framed 60 _ args) (lookOf_nil)))
noncomputable def pa82 : List AV := [pv28, (V false 1 [(S [120]), (S [97])]), (I .u16 (1))]
noncomputable def pr82 : AV := pv47
theorem pm82 : pr82.fresh = true ∧ CallPure PP 37 pa82 pr82 :=
  callPure_ran (n := 60) (lookN_ok pb46Ok.1 pb46Ok.2 mixed 100000 60).1 (by kernel_rfl) (by kernel_rfl)
noncomputable def pv48 : AV := (T [(G [(I .u8 (1)), (V true 5 [(G [(V true 1 [(S [120]), (S [97])]), (I .u16 (5)), (I .u16 (1)), (I .u32 (60)), (V true 4 [(G [(V true 1 [(V true 1 [(S [120]), (S [97])])]), (N), (N), (N)])])])]), (V true 1 [(S [120]), (S [97])])]), (I .i64 (0))])
noncomputable def pb47 : Look := lookOf [(151, true, sameE), (148, true, compareE), (37, false, memoM 60 [(pa82, pr82)])]
theorem pb47Ok : LookOk PP pb47 ∧ LookFr pb47 :=
  lookOf_cons (fun args => same_call (fn := (PP.funcs[151]?).getD default) (by kernel_rfl) (by kernel_rfl) (by kernel_rfl) (by kernel_rfl) (by kernel_rfl) args) (fun args => sameE_framed args) (lookOf_cons (fun args => compare_call (fn := (PP.funcs[148]?).getD default) (by kernel_rfl) (by kernel_rfl) (by kernel_rfl) (by kernel_rfl) (by kernel_rfl) args) (fun args => compareE_framed args) (lookOf_cons (fun args => memo_call (MemoOk.cons pm82.1 pm82.2 (MemoOk.nil)) args) (fun args => memo_framed 60 _ args) (lookOf_nil)))
noncomputable def pa83 : List AV := [pv28, (V false 1 [(S [120]), (S [97])]), (I .u16 (1))]
noncomputable def pr83 : AV := pv48
theorem pm83 : pr83.fresh = true ∧ CallPure PP 20 pa83 pr83 :=
  callPure_ran (n := 60) (lookN_ok pb47Ok.1 pb47Ok.2 mixed 100000 60).1 (by kernel_rfl) (by kernel_rfl)
noncomputable def pv49 : AV := (T [(G [(I .i64 (2)), (B false), (N), (N), (N)]), (I .i64 (0))])
noncomputable def pb48 : Look := lookOf [(151, true, sameE), (148, true, compareE), (14, false, memoM 60 [(pa78, pr78)]), (20, false, memoM 60 [(pa83, pr83)])]
theorem pb48Ok : LookOk PP pb48 ∧ LookFr pb48 :=
  lookOf_cons (fun args => same_call (fn := (PP.funcs[151]?).getD default) (by kernel_rfl) (by kernel_rfl) (by kernel_rfl) (by kernel_rfl) (by kernel_rfl) args) (fun args => sameE_framed args) (lookOf_cons (fun args => compare_call (fn := (PP.funcs[148]?).getD default) (by kernel_rfl) (by kernel_rfl) (by kernel_rfl) (by kernel_rfl) (by kernel_rfl) args) (fun args => compareE_framed args) (lookOf_cons (fun args => memo_call (MemoOk.cons pm78.1 pm78.2 (MemoOk.nil)) args) (fun args => memo_framed 60 _ args) (lookOf_cons (fun args => memo_call (MemoOk.cons pm83.1 pm83.2 (MemoOk.nil)) args) (fun args => memo_framed 60 _ args) (lookOf_nil))))
noncomputable def pa84 : List AV := [pv31, (V false 1 [(S [120]), (S [97])]), (I .u16 (1))]
noncomputable def pr84 : AV := pv49
theorem pm84 : pr84.fresh = true ∧ CallPure PP 5 pa84 pr84 :=
  callPure_ran (n := 60) (lookN_ok pb48Ok.1 pb48Ok.2 mixed 100000 60).1 (by kernel_rfl) (by kernel_rfl)
noncomputable def pa85 : List AV := [pv31, (V false 1 [(S [120]), (S [97])]), (I .u16 (5))]
noncomputable def pr85 : AV := (I .i64 (0))
theorem pm85 : pr85.fresh = true ∧ CallPure PP 14 pa85 pr85 :=
  callPure_ran (n := 60) (lookN_ok pb28Ok.1 pb28Ok.2 mixed 100000 60).1 (by kernel_rfl) (by kernel_rfl)
noncomputable def pa86 : List AV := [pv28, (V false 1 [(S [120]), (S [97])]), (I .u16 (5))]
noncomputable def pr86 : AV := pv47
theorem pm86 : pr86.fresh = true ∧ CallPure PP 37 pa86 pr86 :=
  callPure_ran (n := 60) (lookN_ok pb46Ok.1 pb46Ok.2 mixed 100000 60).1 (by kernel_rfl) (by kernel_rfl)
noncomputable def pv50 : AV := (T [(G [(I .u8 (0)), (V true 5 [(G [(V true 1 [(S [120]), (S [97])]), (I .u16 (5)), (I .u16 (1)), (I .u32 (60)), (V true 4 [(G [(V true 1 [(V true 1 [(S [120]), (S [97])])]), (N), (N), (N)])])])]), (N)]), (I .i64 (0))])
noncomputable def pb49 : Look := lookOf [(151, true, sameE), (148, true, compareE), (37, false, memoM 60 [(pa86, pr86)])]
theorem pb49Ok : LookOk PP pb49 ∧ LookFr pb49 :=
  lookOf_cons (fun args => same_call (fn := (PP.funcs[151]?).getD default) (by kernel_rfl) (by kernel_rfl) (by kernel_rfl) (by kernel_rfl) (by kernel_rfl) args) (fun args => sameE_framed args) (lookOf_cons (fun args => compare_call (fn := (PP.funcs[148]?).getD default) (by kernel_rfl) (by kernel_rfl) (by kernel_rfl) (by kernel_rfl) (by kernel_rfl) args) (fun args => compareE_framed args) (lookOf_cons (fun args => memo_call (MemoOk.cons pm86.1 pm86.2 (MemoOk.nil)) args) (fun args => memo_framed 60 _ args) (lookOf_nil)))
noncomputable def pa87 : List AV := [pv28, (V false 1 [(S [120]), (S [97])]), (I .u16 (5))]
noncomputable def pr87 : AV := pv50
theorem pm87 : pr87.fresh = true ∧ CallPure PP 20 pa87 pr87 :=
  callPure_ran (n := 60) (lookN_ok pb49Ok.1 pb49Ok.2 mixed 100000 60).1 (by kernel_rfl) (by kernel_rfl)
noncomputable def pv51 : AV := (T [(G [(I .i64 (0)), (B false), (V true 5 [(G [(V true 1 [(S [120]), (S [97])]), (I .u16 (5)), (I .u16 (1)), (I .u32 (60)), (V true 4 [(G [(V true 1 [(V true 1 [(S [120]), (S [97])])]), (N), (N), (N)])])])]), (N), (N)]), (I .i64 (0))])
noncomputable def pb50 : Look := lookOf [(151, true, sameE), (148, true, compareE), (14, false, memoM 60 [(pa85, pr85)]), (20, false, memoM 60 [(pa87, pr87)])]
theorem pb50Ok : LookOk PP pb50 ∧ LookFr pb50 :=
  lookOf_cons (fun args => same_call (fn := (PP.funcs[151]?).getD default) (by kernel_rfl) (by kernel_rfl) (by kernel_rfl) (by kernel_rfl) (by kernel_rfl) args) (fun args => sameE_framed args) (lookOf_cons (fun args => compare_call (fn := (PP.funcs[148]?).getD default) (by kernel_rfl) (by kernel_rfl) (by kernel_rfl) (by kernel_rfl) (by kernel_rfl) args) (fun args => compareE_framed args) (lookOf_cons (fun args => memo_call (MemoOk.cons pm85.1 pm85.2 (MemoOk.nil)) args) (fun args => memo_framed 60 _ args) (lookOf_cons (fun args => memo_call (MemoOk.cons pm87.1 pm87.2 (MemoOk.nil)) args) (fun args => memo_framed 60 _ args) (lookOf_nil))))
noncomputable def pa88 : List AV := [pv31, (V false 1 [(S [120]), (S [97])]), (I .u16 (5))]
noncomputable def pr88 : AV := pv51
theorem pm88 : pr88.fresh = true ∧ CallPure PP 5 pa88 pr88 :=
  callPure_ran (n := 60) (lookN_ok pb50Ok.1 pb50Ok.2 mixed 100000 60).1 (by kernel_rfl) (by kernel_rfl)
noncomputable def pa89 : List AV := [pv31, (V false 1 [(S [113]), (S [97])]), (I .u16 (1))]
noncomputable def pr89 : AV := (I .i64 (0))
theorem pm89 : pr89.fresh = true ∧ CallPure PP 14 pa89 pr89 :=
  callPure_ran (n := 60) (lookN_ok pb28Ok.1 pb28Ok.2 mixed 100000 60).1 (by kernel_rfl) (by kernel_rfl)
noncomputable def pa90 : List AV := [pv28, (V false 1 [(S [113]), (S [97])])]
noncomputable def pr90 : AV := (I .i64 (0))
theorem pm90 : pr90.fresh = true ∧ CallPure PP 119 pa90 pr90 :=
  callPure_ran (n := 60) (lookN_ok pb29Ok.1 pb29Ok.2 mixed 100000 60).1 (by kernel_rfl) (by kernel_rfl)
noncomputable def pa91 : List AV := [pv28, (V false 1 [(S [113]), (S [97])])]
noncomputable def pr91 : AV := (V true 1 [(S [97])])
theorem pm91 : pr91.fresh = true ∧ CallPure PP 120 pa91 pr91 :=
  callPure_ran (n := 60) (lookN_ok pb0Ok.1 pb0Ok.2 mixed 100000 60).1 (by kernel_rfl) (by kernel_rfl)
noncomputable def pv52 : AV := (T [(G [(I .u8 (0)), (N), (V true 1 [(S [97])])]), (I .i64 (0))])
noncomputable def pb51 : Look := lookOf [(151, true, sameE), (148, true, compareE), (119, false, memoM 60 [(pa90, pr90)]), (120, false, memoM 60 [(pa91, pr91)])]
theorem pb51Ok : LookOk PP pb51 ∧ LookFr pb51 :=
  lookOf_cons (fun args => same_call (fn := (PP.funcs[151]?).getD default) (by kernel_rfl) (by kernel_rfl) (by kernel_rfl) (by kernel_rfl) (by kernel_rfl) args) (fun args => sameE_framed args) (lookOf_cons (fun args => compare_call (fn := (PP.funcs[148]?).getD default) (by kernel_rfl) (by kernel_rfl) (by kernel_rfl) (by kernel_rfl) (by kernel_rfl) args) (fun args => compareE_framed args) (lookOf_cons (fun args => memo_call (MemoOk.cons pm90.1 pm90.2 (MemoOk.nil)) args) (fun args => memo_framed 60 _ args) (lookOf_cons (fun args => memo_call (MemoOk.cons pm91.1 pm91.2 (MemoOk.nil)) args) (fun args => memo_framed 60 _ args) (lookOf_nil))))
noncomputable def pa92 : List AV := [pv28, (V false 1 [(S [113]), (S [97])])]
noncomputable def pr92 : AV := pv52
theorem pm92 : pr92.fresh = true ∧ CallPure PP 76 pa92 pr92 :=
  callPure_ran (n := 60) (lookN_ok pb51Ok.1 pb51Ok.2 mixed 100000 60).1 (by kernel_rfl) (by kernel_rfl)
noncomputable def pb52 : Look := lookOf [(151, true, sameE), (148, true, compareE), (76, false, memoM 60 [(pa92, pr92)])]
theorem pb52Ok : LookOk PP pb52 ∧ LookFr pb52 :=
  lookOf_cons (fun args => same_call (fn := (PP.funcs[151]?).getD default) (by kernel_rfl) (by kernel_rfl) (by kernel_rfl) (by kernel_rfl) (by kernel_rfl) args) (fun args => sameE_framed args) (lookOf_cons (fun args => compare_call (fn := (PP.funcs[148]?).getD default) (by kernel_rfl) (by kernel_rfl) (by kernel_rfl) (by kernel_rfl) (by kernel_rfl) args) (fun args => compareE_framed args) (lookOf_cons (fun args => memo_call (MemoOk.cons pm92.1 pm92.2 (MemoOk.nil)) args) (fun args => memo_framed 60 _ args) (lookOf_nil)))
noncomputable def pa93 : List AV := [pv28, (V false 1 [(S [113]), (S [97])]), (I .u16 (1))]
noncomputable def pr93 : AV := pv52
theorem pm93 : pr93.fresh = true ∧ CallPure PP 37 pa93 pr93 :=
  callPure_ran (n := 60) (lookN_ok pb52Ok.1 pb52Ok.2 mixed 100000 60).1 (by kernel_rfl) (by kernel_rfl)
noncomputable def pb53 : Look := lookOf [(151, true, sameE), (148, true, compareE), (37, false, memoM 60 [(pa93, pr93)])]
theorem pb53Ok : LookOk PP pb53 ∧ LookFr pb53 :=
  lookOf_cons (fun args => same_call (fn := (PP.funcs[151]?).getD default) (by kernel_rfl) (by kernel_rfl) (by kernel_rfl) (by kernel_rfl) (by kernel_rfl) args) (fun args => sameE_framed args) (lookOf_cons (fun args => compare_call (fn := (PP.funcs[148]?).getD default) (by kernel_rfl) (by kernel_rfl) (by kernel_rfl) (by kernel_rfl) (by kernel_rfl) args) (fun args => compareE_framed args) (lookOf_cons (fun args => memo_call (MemoOk.cons pm93.1 pm93.2 (MemoOk.nil)) args) (fun args => memo_framed 60 _ args) (lookOf_nil)))
noncomputable def pa94 : List AV := [pv28, (V false 1 [(S [113]), (S [97])]), (I .u16 (1))]
noncomputable def pr94 : AV := (T [(G [(I .u8 (3)), (N), (N)]), (I .i64 (0))])
theorem pm94 : pr94.fresh = true ∧ CallPure PP 20 pa94 pr94 :=
  callPure_ran (n := 60) (lookN_ok pb53Ok.1 pb53Ok.2 mixed 100000 60).1 (by kernel_rfl) (by kernel_rfl)
noncomputable def pv53 : AV := (T [(G [(V true 1 [(S [97])]), (I .u16 (6)), (I .u16 (1)), (I .u32 (30)), (V true 4 [(G [(V true 1 [(V true 1 [(S [110, 115]), (S [97])]), (V true 1 [(S [110, 115]), (S [97])])]), (V true 1 [(I .u32 (1)), (I .u32 (2)), (I .u32 (3)), (I .u32 (4)), (I .u32 (30))]), (N), (N)])])]), (I .i64 (0))])
noncomputable def pa95 : List AV := [pv28]
noncomputable def pr95 : AV := pv53
theorem pm95 : pr95.fresh = true ∧ CallPure PP 16 pa95 pr95 :=
  callPure_ran (n := 60) (lookN_ok pb29Ok.1 pb29Ok.2 mixed 100000 60).1 (by kernel_rfl) (by kernel_rfl)
noncomputable def pv54 : AV := (T [(G [(I .i64 (3)), (B false), (N), (V true 5 [(G [(V true 1 [(S [97])]), (I .u16 (6)), (I .u16 (1)), (I .u32 (30)), (V true 4 [(G [(V true 1 [(V true 1 [(S [110, 115]), (S [97])]), (V true 1 [(S [110, 115]), (S [97])])]), (V true 1 [(I .u32 (1)), (I .u32 (2)), (I .u32 (3)), (I .u32 (4)), (I .u32 (30))]), (N), (N)])])])]), (N)]), (I .i64 (0))])
noncomputable def pb54 : Look := lookOf [(151, true, sameE), (148, true, compareE), (14, false, memoM 60 [(pa89, pr89)]), (20, false, memoM 60 [(pa94, pr94)]), (16, false, memoM 60 [(pa95, pr95)])]
theorem pb54Ok : LookOk PP pb54 ∧ LookFr pb54 :=
  lookOf_cons (fun args => same_call (fn := (PP.funcs[151]?).getD default) (by kernel_rfl) (by kernel_rfl) (by kernel_rfl) (by kernel_rfl) (by kernel_rfl) args) (fun args => sameE_framed args) (lookOf_cons (fun args => compare_call (fn := (PP.funcs[148]?).getD default) (by kernel_rfl) (by kernel_rfl) (by kernel_rfl) (by kernel_rfl) (by kernel_rfl) args) (fun args => compareE_framed args) (lookOf_cons (fun args => memo_call (MemoOk.cons pm89.1 pm89.2 (MemoOk.nil)) args) (fun args => memo_framed 60 _ args) (lookOf_cons (fun args => memo_call (MemoOk.cons pm94.1 pm94.2 (MemoOk.nil)) args) (fun args => memo_framed 60 _ args) (lookOf_cons (fun args => memo_call (MemoOk.cons pm95.1 pm95.2 (MemoOk.nil)) args) (fun args => memo_framed 60 _ args) (lookOf_nil)))))
noncomputable def pa96 : List AV := [pv31, (V false 1 [(S [113]), (S [97])]), (I .u16 (1))]
noncomputable def pr96 : AV := pv54
theorem pm96 : pr96.fresh = true ∧ CallPure PP 5 pa96 pr96 :=
  callPure_ran (n := 60) (lookN_ok pb54Ok.1 pb54Ok.2 mixed 100000 60).1 (by kernel_rfl) (by kernel_rfl)
noncomputable def pa97 : List AV := [pv31, (V false 1 [(S [109]), (S [97])]), (I .u16 (16))]
noncomputable def pr97 : AV := (I .i64 (0))
theorem pm97 : pr97.fresh = true ∧ CallPure PP 14 pa97 pr97 :=
  callPure_ran (n := 60) (lookN_ok pb28Ok.1 pb28Ok.2 mixed 100000 60).1 (by kernel_rfl) (by kernel_rfl)
noncomputable def pa98 : List AV := [pv28, (V false 1 [(S [109]), (S [97])]), (I .u16 (16))]
noncomputable def pr98 : AV := pv38
theorem pm98 : pr98.fresh = true ∧ CallPure PP 37 pa98 pr98 :=
  callPure_ran (n := 60) (lookN_ok pb34Ok.1 pb34Ok.2 mixed 100000 60).1 (by kernel_rfl) (by kernel_rfl)
noncomputable def pb55 : Look := lookOf [(151, true, sameE), (148, true, compareE), (37, false, memoM 60 [(pa98, pr98)])]
theorem pb55Ok : LookOk PP pb55 ∧ LookFr pb55 :=
  lookOf_cons (fun args => same_call (fn := (PP.funcs[151]?).getD default) (by kernel_rfl) (by kernel_rfl) (by kernel_rfl) (by kernel_rfl) (by kernel_rfl) args) (fun args => sameE_framed args) (lookOf_cons (fun args => compare_call (fn := (PP.funcs[148]?).getD default) (by kernel_rfl) (by kernel_rfl) (by kernel_rfl) (by kernel_rfl) (by kernel_rfl) args) (fun args => compareE_framed args) (lookOf_cons (fun args => memo_call (MemoOk.cons pm98.1 pm98.2 (MemoOk.nil)) args) (fun args => memo_framed 60 _ args) (lookOf_nil)))
noncomputable def pa99 : List AV := [pv28, (V false 1 [(S [109]), (S [97])]), (I .u16 (16))]
noncomputable def pr99 : AV := (T [(G [(I .u8 (2)), (N), (N)]), (I .i64 (0))])
theorem pm99 : pr99.fresh = true ∧ CallPure PP 20 pa99 pr99 :=
  callPure_ran (n := 60) (lookN_ok pb55Ok.1 pb55Ok.2 mixed 100000 60).1 (by kernel_rfl) (by kernel_rfl)
noncomputable def pv55 : AV := (T [(G [(I .i64 (0)), (B false), (N), (V true 5 [(G [(V true 1 [(S [97])]), (I .u16 (6)), (I .u16 (1)), (I .u32 (30)), (V true 4 [(G [(V true 1 [(V true 1 [(S [110, 115]), (S [97])]), (V true 1 [(S [110, 115]), (S [97])])]), (V true 1 [(I .u32 (1)), (I .u32 (2)), (I .u32 (3)), (I .u32 (4)), (I .u32 (30))]), (N), (N)])])])]), (N)]), (I .i64 (0))])
noncomputable def pb56 : Look := lookOf [(151, true, sameE), (148, true, compareE), (14, false, memoM 60 [(pa97, pr97)]), (20, false, memoM 60 [(pa99, pr99)]), (16, false, memoM 60 [(pa95, pr95)])]
theorem pb56Ok : LookOk PP pb56 ∧ LookFr pb56 :=
  lookOf_cons (fun args => same_call (fn := (PP.funcs[151]?).getD default) (by kernel_rfl) (by kernel_rfl) (by kernel_rfl) (by kernel_rfl) (by kernel_rfl) args) (fun args => sameE_framed args) (lookOf_cons (fun args => compare_call (fn := (PP.funcs[148]?).getD default) (by kernel_rfl) (by kernel_rfl) (by kernel_rfl) (by kernel_rfl) (by kernel_rfl) args) (fun args => compareE_framed args) (lookOf_cons (fun args => memo_call (MemoOk.cons pm97.1 pm97.2 (MemoOk.nil)) args) (fun args => memo_framed 60 _ args) (lookOf_cons (fun args => memo_call (MemoOk.cons pm99.1 pm99.2 (MemoOk.nil)) args) (fun args => memo_framed 60 _ args) (lookOf_cons (fun args => memo_call (MemoOk.cons pm95.1 pm95.2 (MemoOk.nil)) args) (fun args => memo_framed 60 _ args) (lookOf_nil)))))
noncomputable def pa100 : List AV := [pv31, (V false 1 [(S [109]), (S [97])]), (I .u16 (16))]
noncomputable def pr100 : AV := pv55
theorem pm100 : pr100.fresh = true ∧ CallPure PP 5 pa100 pr100 :=
  callPure_ran (n := 60) (lookN_ok pb56Ok.1 pb56Ok.2 mixed 100000 60).1 (by kernel_rfl) (by kernel_rfl)
noncomputable def pa101 : List AV := [pv31, (V false 1 [(S [97])]), (I .u16 (255))]
noncomputable def pr101 : AV := (I .i64 (6))
theorem pm101 : pr101.fresh = true ∧ CallPure PP 14 pa101 pr101 :=
  callPure_ran (n := 60) (lookN_ok pb28Ok.1 pb28Ok.2 mixed 100000 60).1 (by kernel_rfl) (by kernel_rfl)
noncomputable def pv56 : AV := (T [(G [(I .i64 (0)), (B false), (N), (N), (N)]), (I .i64 (6))])
noncomputable def pb57 : Look := lookOf [(151, true, sameE), (148, true, compareE), (14, false, memoM 60 [(pa101, pr101)])]
theorem pb57Ok : LookOk PP pb57 ∧ LookFr pb57 :=
  lookOf_cons (fun args => same_call (fn := (PP.funcs[151]?).getD default) (by kernel_rfl) (by kernel_rfl) (by kernel_rfl) (by kernel_rfl) (by kernel_rfl) args) (fun args => sameE_framed args) (lookOf_cons (fun args => compare_call (fn := (PP.funcs[148]?).getD default) (by kernel_rfl) (by kernel_rfl) (by kernel_rfl) (by kernel_rfl) (by kernel_rfl) args) (fun args => compareE_framed args) (lookOf_cons (fun args => memo_call (MemoOk.cons pm101.1 pm101.2 (MemoOk.nil)) args) (fun args => memo_framed 60 _ args) (lookOf_nil)))
noncomputable def pa102 : List AV := [pv31, (V false 1 [(S [97])]), (I .u16 (255))]
noncomputable def pr102 : AV := pv56
theorem pm102 : pr102.fresh = true ∧ CallPure PP 5 pa102 pr102 :=
  callPure_ran (n := 60) (lookN_ok pb57Ok.1 pb57Ok.2 mixed 100000 60).1 (by kernel_rfl) (by kernel_rfl)
noncomputable def pa103 : List AV := [pv31, (V false 1 [(S [119, 119, 119]), (S [97])]), (I .u16 (5))]
noncomputable def pr103 : AV := (I .i64 (0))
theorem pm103 : pr103.fresh = true ∧ CallPure PP 14 pa103 pr103 :=
  callPure_ran (n := 60) (lookN_ok pb28Ok.1 pb28Ok.2 mixed 100000 60).1 (by kernel_rfl) (by kernel_rfl)
noncomputable def pa104 : List AV := [pv28, (V false 1 [(S [119, 119, 119]), (S [97])]), (I .u16 (5))]
noncomputable def pr104 : AV := pv36
theorem pm104 : pr104.fresh = true ∧ CallPure PP 37 pa104 pr104 :=
  callPure_ran (n := 60) (lookN_ok pb31Ok.1 pb31Ok.2 mixed 100000 60).1 (by kernel_rfl) (by kernel_rfl)
noncomputable def pv57 : AV := (T [(G [(I .u8 (0)), (V true 5 [(G [(V true 1 [(S [119, 119, 119]), (S [97])]), (I .u16 (5)), (I .u16 (1)), (I .u32 (60)), (V true 4 [(G [(V true 1 [(V true 1 [(S [109]), (S [97])])]), (N), (N), (N)])])])]), (N)]), (I .i64 (0))])
noncomputable def pb58 : Look := lookOf [(151, true, sameE), (148, true, compareE), (37, false, memoM 60 [(pa104, pr104)])]
theorem pb58Ok : LookOk PP pb58 ∧ LookFr pb58 :=
  lookOf_cons (fun args => same_call (fn := (PP.funcs[151]?).getD default) (by kernel_rfl) (by kernel_rfl) (by kernel_rfl) (by kernel_rfl) (by kernel_rfl) args) (fun args => sameE_framed args) (lookOf_cons (fun args => compare_call (fn := (PP.funcs[148]?).getD default) (by kernel_rfl) (by kernel_rfl) (by kernel_rfl) (by kernel_rfl) (by kernel_rfl) args) (fun args => compareE_framed args) (lookOf_cons (fun args => memo_call (MemoOk.cons pm104.1 pm104.2 (MemoOk.nil)) args) (fun args => memo_framed 60 _ args) (lookOf_nil)))
noncomputable def pa105 : List AV := [pv28, (V false 1 [(S [119, 119, 119]), (S [97])]), (I .u16 (5))]
noncomputable def pr105 : AV := pv57
theorem pm105 : pr105.fresh = true ∧ CallPure PP 20 pa105 pr105 :=
  callPure_ran (n := 60) (lookN_ok pb58Ok.1 pb58Ok.2 mixed 100000 60).1 (by kernel_rfl) (by kernel_rfl)
noncomputable def pa106 : List AV := [(I .u16 (5)), pv21, pv21]
noncomputable def pr106 : AV := (I .i64 (0))
theorem pm106 : pr106.fresh = true ∧ CallPure PP 80 pa106 pr106 :=
  callPure_ran (n := 60) (lookN_ok pb0Ok.1 pb0Ok.2 mixed 100000 60).1 (by kernel_rfl) (by kernel_rfl)
noncomputable def pb59 : Look := lookOf [(151, true, sameE), (148, true, compareE), (80, false, memoM 60 [(pa106, pr106)])]
theorem pb59Ok : LookOk PP pb59 ∧ LookFr pb59 :=
  lookOf_cons (fun args => same_call (fn := (PP.funcs[151]?).getD default) (by kernel_rfl) (by kernel_rfl) (by kernel_rfl) (by kernel_rfl) (by kernel_rfl) args) (fun args => sameE_framed args) (lookOf_cons (fun args => compare_call (fn := (PP.funcs[148]?).getD default) (by kernel_rfl) (by kernel_rfl) (by kernel_rfl) (by kernel_rfl) (by kernel_rfl) args) (fun args => compareE_framed args) (lookOf_cons (fun args => memo_call (MemoOk.cons pm106.1 pm106.2 (MemoOk.nil)) args) (fun args => memo_framed 60 _ args) (lookOf_nil)))
noncomputable def pa107 : List AV := [(I .u16 (5)), pv21, pv21]
noncomputable def pr107 : AV := (B true)
theorem pm107 : pr107.fresh = true ∧ CallPure PP 96 pa107 pr107 :=
  callPure_ran (n := 60) (lookN_ok pb59Ok.1 pb59Ok.2 mixed 100000 60).1 (by kernel_rfl) (by kernel_rfl)
noncomputable def pv58 : AV := (V false 4 [(G [(V false 1 [(V false 1 [(S [109]), (S [97])])]), (N), (N), (N)])])
noncomputable def pb60 : Look := lookOf [(151, true, sameE), (148, true, compareE), (96, false, memoM 60 [(pa107, pr107)])]
theorem pb60Ok : LookOk PP pb60 ∧ LookFr pb60 :=
  lookOf_cons (fun args => same_call (fn := (PP.funcs[151]?).getD default) (by kernel_rfl) (by kernel_rfl) (by kernel_rfl) (by kernel_rfl) (by kernel_rfl) args) (fun args => sameE_framed args) (lookOf_cons (fun args => compare_call (fn := (PP.funcs[148]?).getD default) (by kernel_rfl) (by kernel_rfl) (by kernel_rfl) (by kernel_rfl) (by kernel_rfl) args) (fun args => compareE_framed args) (lookOf_cons (fun args => memo_call (MemoOk.cons pm107.1 pm107.2 (MemoOk.nil)) args) (fun args => memo_framed 60 _ args) (lookOf_nil)))
noncomputable def pa108 : List AV := [(I .u16 (5)), pv58, pv21]
noncomputable def pr108 : AV := (B true)
theorem pm108 : pr108.fresh = true ∧ CallPure PP 57 pa108 pr108 :=
  callPure_ran (n := 60) (lookN_ok pb60Ok.1 pb60Ok.2 mixed 100000 60).1 (by kernel_rfl) (by kernel_rfl)
noncomputable def pv59 : AV := (G [(V false 1 [(S [119, 119, 119]), (S [97])]), (I .u16 (5)), (I .u16 (1)), (I .u32 (60)), (V false 4 [(G [(V false 1 [(V false 1 [(S [109]), (S [97])])]), (N), (N), (N)])])])
noncomputable def pb61 : Look := lookOf [(151, true, sameE), (148, true, compareE), (57, false, memoM 60 [(pa108, pr108)])]
theorem pb61Ok : LookOk PP pb61 ∧ LookFr pb61 :=
  lookOf_cons (fun args => same_call (fn := (PP.funcs[151]?).getD default) (by kernel_rfl) (by kernel_rfl) (by kernel_rfl) (by kernel_rfl) (by kernel_rfl) args) (fun args => sameE_framed args) (lookOf_cons (fun args => compare_call (fn := (PP.funcs[148]?).getD default) (by kernel_rfl) (by kernel_rfl) (by kernel_rfl) (by kernel_rfl) (by kernel_rfl) args) (fun args => compareE_framed args) (lookOf_cons (fun args => memo_call (MemoOk.cons pm108.1 pm108.2 (MemoOk.nil)) args) (fun args => memo_framed 60 _ args) (lookOf_nil)))
noncomputable def pa109 : List AV := [pv59, pv59]
noncomputable def pr109 : AV := (B true)
theorem pm109 : pr109.fresh = true ∧ CallPure PP 39 pa109 pr109 :=
  callPure_ran (n := 60) (lookN_ok pb61Ok.1 pb61Ok.2 mixed 100000 60).1 (by kernel_rfl) (by kernel_rfl)
noncomputable def pb62 : Look := lookOf [(151, true, sameE), (148, true, compareE), (39, false, memoM 60 [(pa109, pr109)])]
theorem pb62Ok : LookOk PP pb62 ∧ LookFr pb62 :=
  lookOf_cons (fun args => same_call (fn := (PP.funcs[151]?).getD default) (by kernel_rfl) (by kernel_rfl) (by kernel_rfl) (by kernel_rfl) (by kernel_rfl) args) (fun args => sameE_framed args) (lookOf_cons (fun args => compare_call (fn := (PP.funcs[148]?).getD default) (by kernel_rfl) (by kernel_rfl) (by kernel_rfl) (by kernel_rfl) (by kernel_rfl) args) (fun args => compareE_framed args) (lookOf_cons (fun args => memo_call (MemoOk.cons pm109.1 pm109.2 (MemoOk.nil)) args) (fun args => memo_framed 60 _ args) (lookOf_nil)))
noncomputable def pa110 : List AV := [pv59, pv59]
noncomputable def pr110 : AV := (B true)
theorem pm110 : pr110.fresh = true ∧ CallPure PP 21 pa110 pr110 :=
  callPure_ran (n := 60) (lookN_ok pb62Ok.1 pb62Ok.2 mixed 100000 60).1 (by kernel_rfl) (by kernel_rfl)
noncomputable def pb63 : Look := lookOf [(151, true, sameE), (148, true, compareE), (14, false, memoM 60 [(pa103, pr103)]), (20, false, memoM 60 [(pa105, pr105)]), (21, false, memoM 60 [(pa110, pr110)])]
theorem pb63Ok : LookOk PP pb63 ∧ LookFr pb63 :=
  lookOf_cons (fun args => same_call (fn := (PP.funcs[151]?).getD default) (by kernel_rfl) (by kernel_rfl) (by kernel_rfl) (by kernel_rfl) (by kernel_rfl) args) (fun args => sameE_framed args) (lookOf_cons (fun args => compare_call (fn := (PP.funcs[148]?).getD default) (by kernel_rfl) (by kernel_rfl) (by kernel_rfl) (by kernel_rfl) (by kernel_rfl) args) (fun args => compareE_framed args) (lookOf_cons (fun args => memo_call (MemoOk.cons pm103.1 pm103.2 (MemoOk.nil)) args) (fun args => memo_framed 60 _ args) (lookOf_cons (fun args => memo_call (MemoOk.cons pm105.1 pm105.2 (MemoOk.nil)) args) (fun args => memo_framed 60 _ args) (lookOf_cons (fun args => memo_call (MemoOk.cons pm110.1 pm110.2 (MemoOk.nil)) args) (fun args => memo_framed 60 _ args) (lookOf_nil)))))
noncomputable def pa111 : List AV := [pv31, pv59]
noncomputable def pr111 : AV := (B true)
theorem pm111 : pr111.fresh = true ∧ CallPure PP 9 pa111 pr111 :=
  callPure_ran (n := 60) (lookN_ok pb63Ok.1 pb63Ok.2 mixed 100000 60).1 (by kernel_rfl) (by kernel_rfl)
noncomputable def base : Look := lookOf [(151, true, sameE), (148, true, compareE), (4, false, memoM 60 [(pa37, pr37)]), (5, false, memoM 60 [(pa64, pr64), (pa76, pr76), (pa84, pr84), (pa88, pr88), (pa96, pr96), (pa100, pr100), (pa102, pr102)]), (6, false, memoM 60 [(pa77, pr77)]), (9, false, memoM 60 [(pa111, pr111)])]
theorem baseOk : LookOk PP base ∧ LookFr base :=
  lookOf_cons (fun args => same_call (fn := (PP.funcs[151]?).getD default) (by kernel_rfl) (by kernel_rfl) (by kernel_rfl) (by kernel_rfl) (by kernel_rfl) args) (fun args => sameE_framed args) (lookOf_cons (fun args => compare_call (fn := (PP.funcs[148]?).getD default) (by kernel_rfl) (by kernel_rfl) (by kernel_rfl) (by kernel_rfl) (by kernel_rfl) args) (fun args => compareE_framed args) (lookOf_cons (fun args => memo_call (MemoOk.cons pm37.1 pm37.2 (MemoOk.nil)) args) (fun args => memo_framed 60 _ args) (lookOf_cons (fun args => memo_call (MemoOk.cons pm64.1 pm64.2 (MemoOk.cons pm76.1 pm76.2 (MemoOk.cons pm84.1 pm84.2 (MemoOk.cons pm88.1 pm88.2 (MemoOk.cons pm96.1 pm96.2 (MemoOk.cons pm100.1 pm100.2 (MemoOk.cons pm102.1 pm102.2 (MemoOk.nil)))))))) args) (fun args => memo_framed 60 _ args) (lookOf_cons (fun args => memo_call (MemoOk.cons pm77.1 pm77.2 (MemoOk.nil)) args) (fun args => memo_framed 60 _ args) (lookOf_cons (fun args => memo_call (MemoOk.cons pm111.1 pm111.2 (MemoOk.nil)) args) (fun args => memo_framed 60 _ args) (lookOf_nil))))))
noncomputable def look : Look := lookN PP base 100000 60
theorem lookOk : LookOk PP look := (lookN_ok baseOk.1 baseOk.2 mixed 100000 60).1
noncomputable def okRun (r : Option (AV × St)) : Bool := match r with | some p => (match p.1 with | .sc v => (match v with | .bool b => b | _ => false) | _ => false) | none => false
noncomputable def unkA : AC Unit := aU (Tryz.f3.params.toList.map (shapeU PP))
noncomputable def runOf (f : Nat) : Option (AV × St) := match look f with | some p => p.2 (unkA.E ()) (stK []) | none => none
set_option maxRecDepth 1000000
theorem runs : okRun (runOf 3) = true := by kernel_rfl
theorem okRun_some {r : Option (AV × St)} (h : okRun r = true) : ∃ st, r = some (.sc (.bool true), st) := by
  unfold okRun at h
  split at h
  · rename_i p
    obtain ⟨a, st⟩ := p
    dsimp only at h
    split at h
    · split at h
      · subst h; exact ⟨st, rfl⟩
      · cases h
    · cases h
  · cases h
theorem law_pure : CallPure PP 3 (unkA.E ()) (.sc (.bool true)) := by
  obtain ⟨st, h⟩ := okRun_some runs
  unfold runOf at h
  cases hp : look 3 with
  | none => rw [hp] at h; cases h
  | some p =>
    rw [hp] at h
    exact callPure_of_run lookOk hp (by kernel_rfl) (r1 codBool) true true h rfl

theorem own : ownKnob PP.godebug = none := by kernel_rfl
theorem undBool : PP.underlying 4 = some .bool := by kernel_rfl
theorem lifted (os : Os) (started : os.Started) (H : Type) (enc : TypeId × Value → H) :
    ReturnsInHanded {} Tryz.checked os 3 .any (Rows.lookupKnownSpec.pre6 enc Tryz.prog Tryz.f3 Rows.lookupKnownRow.domain false) (Rows.lookupKnownSpec.post enc Tryz.prog Tryz.f3 false true false false) := by
  refine returnsInHanded_of_change (C := Tryz.checked) own started (by kernel_rfl) Tryz.func3
    (ChangeSpec.witness6 (enc := enc) (C := Tryz.checked) false ⟨#[], Tryz.f3.params.map fun t => ((PP.info? t).bind (·.zero)).getD undef, []⟩ 8 (by kernel_rfl) (by kernel_rfl) (by kernel_rfl) (by kernel_rfl)) ?_
  intro W base args ds gs before hval hW _ _
  exact law_post (by kernel_rfl) (by kernel_rfl) (slicesFull_at (by kernel_rfl)) (tb := 4) (by kernel_rfl) rfl (by kernel_rfl) undBool (typesIn_at (by kernel_rfl))
    (fun H ds hl => by match ds, (show ds.length = 0 from hl) with | [], _ => rfl) (A := unkA) (rdA_unk _) (N := none) (fun _ _ => law_pure) enc W base args ds gs before hval hW (fun n hn => by cases hn)
theorem over : Rows.lookupKnownRow.holds Tryz.pinned (OpenSpec.ofChange Rows.lookupKnownSpec) :=
  OpenClaim.holds_of_wide 3 Tryz.f3 rfl rfl rfl rfl rfl rfl rfl ⟨rfl, rfl, rfl, rfl, rfl⟩ rfl rfl rfl rfl rfl (by kernel_rfl) Tryz.func3 (by kernel_rfl)
    (of_decide_eq_true (by kernel_rfl)) (by unfold Func.isWrapper; first | (rw [if_pos (by decide +kernel)]; kernel_rfl) | (rw [if_neg (by decide +kernel)]; exact ⟨rfl, rfl⟩))
    (fun os started H enc _ => lifted os started H enc)
theorem proved : Rows.LookupKnownSaid := over

end Go.Proofs.YtkjdgfmphjmhmaeGreat.lookupKnown
