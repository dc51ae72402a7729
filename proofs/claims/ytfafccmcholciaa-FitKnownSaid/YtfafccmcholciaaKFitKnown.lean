/- Proved: the law FitKnown returns true, whatever it is given: its run on abstract values, of which the arguments are unknown, is reckoned by the kernel. No conditions. -/
import Derived.Test.YtfafccmcholciaaWxU
import Derived.Test.YtfafccmcholciaaWxV
import Derived.Test.YtfafccmcholciaaRows
import Derived.JoinedCond
import Derived.KernelRfl
set_option linter.unusedVariables false
namespace Go.Proofs.Ytfafccmcholciaa.fitKnown
open Go.Vm Go.Vm.Lit Go.ChangeShapes Go.WideShapes Go.ChangeAt

noncomputable abbrev PP := Try.prog
theorem mixed : PP.follows .mixedOrders = true := by kernel_rfl
set_option maxRecDepth 1000000
noncomputable def pv0 : AV := (G [(I .u16 (1)), (B false), (I .i64 (0)), (B false), (B false), (B false), (B false), (B false), (B false), (I .i64 (0)), (V false 3 [(G [(V false 1 [(S [97])]), (I .u16 (1)), (I .u16 (1))])]), (V false 8 [(G [(V false 1 [(S [97])]), (I .u16 (1)), (I .u16 (1)), (I .u32 (60)), (N), (N), (N), (V false 1 [(I .u8 (1)), (I .u8 (1)), (I .u8 (1)), (I .u8 (1))])]), (G [(V false 1 [(S [97])]), (I .u16 (1)), (I .u16 (1)), (I .u32 (60)), (N), (N), (N), (V false 1 [(I .u8 (2)), (I .u8 (2)), (I .u8 (2)), (I .u8 (2))])])]), (V false 8 [(G [(V false 1 [(S [98])]), (I .u16 (2)), (I .u16 (1)), (I .u32 (60)), (V false 1 [(V false 1 [(S [99])])]), (N), (N), (N)])]), (V false 8 [(G [(V false 1 [(S [100])]), (I .u16 (1)), (I .u16 (1)), (I .u32 (60)), (N), (N), (N), (V false 1 [(I .u8 (3)), (I .u8 (3)), (I .u8 (3)), (I .u8 (3))])])])])
noncomputable def pb0 : Look := lookOf []
theorem pb0Ok : LookOk PP pb0 ∧ LookFr pb0 :=
  lookOf_nil
noncomputable def pa0 : List AV := [pv0]
noncomputable def pr0 : AV := (I .i64 (0))
theorem pm0 : pr0.fresh = true ∧ CallPure PP 11 pa0 pr0 :=
  callPure_ran (n := 60) (lookN_ok pb0Ok.1 pb0Ok.2 mixed 100000 60).1 (by kernel_rfl) (by kernel_rfl)
noncomputable def pv1 : AV := (G [(I .u16 (1)), (B false), (I .i64 (0)), (B false), (B true), (B false), (B false), (B false), (B false), (I .i64 (0)), (V false 3 [(G [(V false 1 [(S [97])]), (I .u16 (1)), (I .u16 (1))])]), (V false 8 []), (V false 8 []), (V false 8 [])])
noncomputable def pa1 : List AV := [pv1]
noncomputable def pr1 : AV := (I .i64 (0))
theorem pm1 : pr1.fresh = true ∧ CallPure PP 11 pa1 pr1 :=
  callPure_ran (n := 60) (lookN_ok pb0Ok.1 pb0Ok.2 mixed 100000 60).1 (by kernel_rfl) (by kernel_rfl)
noncomputable def pv2 : AV := (G [(I .i64 (1)), (I .i64 (0)), (I .i64 (0)), (I .i64 (0))])
noncomputable def pv3 : AV := (T [(V true 1 [(I .u8 (0)), (I .u8 (1)), (I .u8 (2)), (I .u8 (0)), (I .u8 (0)), (I .u8 (1)), (I .u8 (0)), (I .u8 (0)), (I .u8 (0)), (I .u8 (0)), (I .u8 (0)), (I .u8 (0))]), (I .i64 (0))])
noncomputable def pa2 : List AV := [pv1, pv2]
noncomputable def pr2 : AV := pv3
theorem pm2 : pr2.fresh = true ∧ CallPure PP 31 pa2 pr2 :=
  callPure_ran (n := 60) (lookN_ok pb0Ok.1 pb0Ok.2 mixed 100000 60).1 (by kernel_rfl) (by kernel_rfl)
noncomputable def pv4 : AV := (T [(V true 1 [(I .u8 (0)), (I .u8 (1)), (I .u8 (2)), (I .u8 (0)), (I .u8 (0)), (I .u8 (1)), (I .u8 (0)), (I .u8 (0)), (I .u8 (0)), (I .u8 (0)), (I .u8 (0)), (I .u8 (0)), (I .u8 (1)), (I .u8 (97)), (I .u8 (0)), (I .u8 (0)), (I .u8 (1)), (I .u8 (0)), (I .u8 (1))]), (I .i64 (0))])
noncomputable def pb1 : Look := lookOf [(31, false, memoM 60 [(pa2, pr2)])]
theorem pb1Ok : LookOk PP pb1 ∧ LookFr pb1 :=
  lookOf_cons (fun args => memo_call (MemoOk.cons pm2.1 pm2.2 (MemoOk.nil)) args) (fun args => memo_framed 60 _ args) (lookOf_nil)
noncomputable def pa3 : List AV := [pv1, (I .i64 (0))]
noncomputable def pr3 : AV := pv4
theorem pm3 : pr3.fresh = true ∧ CallPure PP 17 pa3 pr3 :=
  callPure_ran (n := 60) (lookN_ok pb1Ok.1 pb1Ok.2 mixed 100000 60).1 (by kernel_rfl) (by kernel_rfl)
noncomputable def pb2 : Look := lookOf [(11, false, memoM 60 [(pa1, pr1)]), (17, false, memoM 60 [(pa3, pr3)])]
theorem pb2Ok : LookOk PP pb2 ∧ LookFr pb2 :=
  lookOf_cons (fun args => memo_call (MemoOk.cons pm1.1 pm1.2 (MemoOk.nil)) args) (fun args => memo_framed 60 _ args) (lookOf_cons (fun args => memo_call (MemoOk.cons pm3.1 pm3.2 (MemoOk.nil)) args) (fun args => memo_framed 60 _ args) (lookOf_nil))
noncomputable def pa4 : List AV := [pv1]
noncomputable def pr4 : AV := pv4
theorem pm4 : pr4.fresh = true ∧ CallPure PP 9 pa4 pr4 :=
  callPure_ran (n := 60) (lookN_ok pb2Ok.1 pb2Ok.2 mixed 100000 60).1 (by kernel_rfl) (by kernel_rfl)
noncomputable def pv5 : AV := (G [(I .u16 (1)), (B false), (I .i64 (0)), (B false), (B true), (B false), (B false), (B false), (B false), (I .i64 (0)), (V false 3 [(G [(V false 1 [(S [97])]), (I .u16 (1)), (I .u16 (1))])]), (V false 8 [(G [(V false 1 [(S [97])]), (I .u16 (1)), (I .u16 (1)), (I .u32 (60)), (N), (N), (N), (V false 1 [(I .u8 (1)), (I .u8 (1)), (I .u8 (1)), (I .u8 (1))])]), (G [(V false 1 [(S [97])]), (I .u16 (1)), (I .u16 (1)), (I .u32 (60)), (N), (N), (N), (V false 1 [(I .u8 (2)), (I .u8 (2)), (I .u8 (2)), (I .u8 (2))])])]), (V false 8 []), (V false 8 [])])
noncomputable def pa5 : List AV := [pv5]
noncomputable def pr5 : AV := (I .i64 (0))
theorem pm5 : pr5.fresh = true ∧ CallPure PP 11 pa5 pr5 :=
  callPure_ran (n := 60) (lookN_ok pb0Ok.1 pb0Ok.2 mixed 100000 60).1 (by kernel_rfl) (by kernel_rfl)
noncomputable def pv6 : AV := (G [(I .i64 (1)), (I .i64 (2)), (I .i64 (0)), (I .i64 (0))])
noncomputable def pv7 : AV := (T [(V true 1 [(I .u8 (0)), (I .u8 (1)), (I .u8 (2)), (I .u8 (0)), (I .u8 (0)), (I .u8 (1)), (I .u8 (0)), (I .u8 (2)), (I .u8 (0)), (I .u8 (0)), (I .u8 (0)), (I .u8 (0))]), (I .i64 (0))])
noncomputable def pa6 : List AV := [pv5, pv6]
noncomputable def pr6 : AV := pv7
theorem pm6 : pr6.fresh = true ∧ CallPure PP 31 pa6 pr6 :=
  callPure_ran (n := 60) (lookN_ok pb0Ok.1 pb0Ok.2 mixed 100000 60).1 (by kernel_rfl) (by kernel_rfl)
noncomputable def pv8 : AV := (T [(V true 1 [(I .u8 (0)), (I .u8 (1)), (I .u8 (2)), (I .u8 (0)), (I .u8 (0)), (I .u8 (1)), (I .u8 (0)), (I .u8 (2)), (I .u8 (0)), (I .u8 (0)), (I .u8 (0)), (I .u8 (0)), (I .u8 (1)), (I .u8 (97)), (I .u8 (0)), (I .u8 (0)), (I .u8 (1)), (I .u8 (0)), (I .u8 (1)), (I .u8 (192)), (I .u8 (12)), (I .u8 (0)), (I .u8 (1)), (I .u8 (0)), (I .u8 (1)), (I .u8 (0)), (I .u8 (0)), (I .u8 (0)), (I .u8 (60)), (I .u8 (0)), (I .u8 (4)), (I .u8 (1)), (I .u8 (1)), (I .u8 (1)), (I .u8 (1)), (I .u8 (192)), (I .u8 (12)), (I .u8 (0)), (I .u8 (1)), (I .u8 (0)), (I .u8 (1)), (I .u8 (0)), (I .u8 (0)), (I .u8 (0)), (I .u8 (60)), (I .u8 (0)), (I .u8 (4)), (I .u8 (2)), (I .u8 (2)), (I .u8 (2)), (I .u8 (2))]), (I .i64 (0))])
noncomputable def pb3 : Look := lookOf [(31, false, memoM 60 [(pa6, pr6)])]
theorem pb3Ok : LookOk PP pb3 ∧ LookFr pb3 :=
  lookOf_cons (fun args => memo_call (MemoOk.cons pm6.1 pm6.2 (MemoOk.nil)) args) (fun args => memo_framed 60 _ args) (lookOf_nil)
noncomputable def pa7 : List AV := [pv5, (I .i64 (2))]
noncomputable def pr7 : AV := pv8
theorem pm7 : pr7.fresh = true ∧ CallPure PP 17 pa7 pr7 :=
  callPure_ran (n := 60) (lookN_ok pb3Ok.1 pb3Ok.2 mixed 100000 60).1 (by kernel_rfl) (by kernel_rfl)
noncomputable def pb4 : Look := lookOf [(11, false, memoM 60 [(pa5, pr5)]), (17, false, memoM 60 [(pa7, pr7)])]
theorem pb4Ok : LookOk PP pb4 ∧ LookFr pb4 :=
  lookOf_cons (fun args => memo_call (MemoOk.cons pm5.1 pm5.2 (MemoOk.nil)) args) (fun args => memo_framed 60 _ args) (lookOf_cons (fun args => memo_call (MemoOk.cons pm7.1 pm7.2 (MemoOk.nil)) args) (fun args => memo_framed 60 _ args) (lookOf_nil))
noncomputable def pa8 : List AV := [pv5]
noncomputable def pr8 : AV := pv8
theorem pm8 : pr8.fresh = true ∧ CallPure PP 9 pa8 pr8 :=
  callPure_ran (n := 60) (lookN_ok pb4Ok.1 pb4Ok.2 mixed 100000 60).1 (by kernel_rfl) (by kernel_rfl)
noncomputable def pv9 : AV := (G [(I .u16 (1)), (B false), (I .i64 (0)), (B false), (B false), (B false), (B false), (B false), (B false), (I .i64 (0)), (V false 3 [(G [(V false 1 [(S [97])]), (I .u16 (1)), (I .u16 (1))])]), (V false 8 [(G [(V false 1 [(S [97])]), (I .u16 (1)), (I .u16 (1)), (I .u32 (60)), (N), (N), (N), (V false 1 [(I .u8 (1)), (I .u8 (1)), (I .u8 (1)), (I .u8 (1))])]), (G [(V false 1 [(S [97])]), (I .u16 (1)), (I .u16 (1)), (I .u32 (60)), (N), (N), (N), (V false 1 [(I .u8 (2)), (I .u8 (2)), (I .u8 (2)), (I .u8 (2))])])]), (V false 8 [(G [(V false 1 [(S [98])]), (I .u16 (2)), (I .u16 (1)), (I .u32 (60)), (V false 1 [(V false 1 [(S [99])])]), (N), (N), (N)])]), (V false 8 [])])
noncomputable def pa9 : List AV := [pv9]
noncomputable def pr9 : AV := (I .i64 (0))
theorem pm9 : pr9.fresh = true ∧ CallPure PP 11 pa9 pr9 :=
  callPure_ran (n := 60) (lookN_ok pb0Ok.1 pb0Ok.2 mixed 100000 60).1 (by kernel_rfl) (by kernel_rfl)
noncomputable def pv10 : AV := (G [(I .i64 (1)), (I .i64 (2)), (I .i64 (1)), (I .i64 (0))])
noncomputable def pv11 : AV := (T [(V true 1 [(I .u8 (0)), (I .u8 (1)), (I .u8 (0)), (I .u8 (0)), (I .u8 (0)), (I .u8 (1)), (I .u8 (0)), (I .u8 (2)), (I .u8 (0)), (I .u8 (1)), (I .u8 (0)), (I .u8 (0))]), (I .i64 (0))])
noncomputable def pa10 : List AV := [pv9, pv10]
noncomputable def pr10 : AV := pv11
theorem pm10 : pr10.fresh = true ∧ CallPure PP 31 pa10 pr10 :=
  callPure_ran (n := 60) (lookN_ok pb0Ok.1 pb0Ok.2 mixed 100000 60).1 (by kernel_rfl) (by kernel_rfl)
noncomputable def pv12 : AV := (T [(V true 1 [(I .u8 (0)), (I .u8 (1)), (I .u8 (0)), (I .u8 (0)), (I .u8 (0)), (I .u8 (1)), (I .u8 (0)), (I .u8 (2)), (I .u8 (0)), (I .u8 (1)), (I .u8 (0)), (I .u8 (0)), (I .u8 (1)), (I .u8 (97)), (I .u8 (0)), (I .u8 (0)), (I .u8 (1)), (I .u8 (0)), (I .u8 (1)), (I .u8 (192)), (I .u8 (12)), (I .u8 (0)), (I .u8 (1)), (I .u8 (0)), (I .u8 (1)), (I .u8 (0)), (I .u8 (0)), (I .u8 (0)), (I .u8 (60)), (I .u8 (0)), (I .u8 (4)), (I .u8 (1)), (I .u8 (1)), (I .u8 (1)), (I .u8 (1)), (I .u8 (192)), (I .u8 (12)), (I .u8 (0)), (I .u8 (1)), (I .u8 (0)), (I .u8 (1)), (I .u8 (0)), (I .u8 (0)), (I .u8 (0)), (I .u8 (60)), (I .u8 (0)), (I .u8 (4)), (I .u8 (2)), (I .u8 (2)), (I .u8 (2)), (I .u8 (2)), (I .u8 (1)), (I .u8 (98)), (I .u8 (0)), (I .u8 (0)), (I .u8 (2)), (I .u8 (0)), (I .u8 (1)), (I .u8 (0)), (I .u8 (0)), (I .u8 (0)), (I .u8 (60)), (I .u8 (0)), (I .u8 (3)), (I .u8 (1)), (I .u8 (99)), (I .u8 (0))]), (I .i64 (0))])
noncomputable def pb5 : Look := lookOf [(31, false, memoM 60 [(pa10, pr10)])]
theorem pb5Ok : LookOk PP pb5 ∧ LookFr pb5 :=
  lookOf_cons (fun args => memo_call (MemoOk.cons pm10.1 pm10.2 (MemoOk.nil)) args) (fun args => memo_framed 60 _ args) (lookOf_nil)
noncomputable def pa11 : List AV := [pv9, (I .i64 (3))]
noncomputable def pr11 : AV := pv12
theorem pm11 : pr11.fresh = true ∧ CallPure PP 17 pa11 pr11 :=
  callPure_ran (n := 60) (lookN_ok pb5Ok.1 pb5Ok.2 mixed 100000 60).1 (by kernel_rfl) (by kernel_rfl)
noncomputable def pb6 : Look := lookOf [(11, false, memoM 60 [(pa9, pr9)]), (17, false, memoM 60 [(pa11, pr11)])]
theorem pb6Ok : LookOk PP pb6 ∧ LookFr pb6 :=
  lookOf_cons (fun args => memo_call (MemoOk.cons pm9.1 pm9.2 (MemoOk.nil)) args) (fun args => memo_framed 60 _ args) (lookOf_cons (fun args => memo_call (MemoOk.cons pm11.1 pm11.2 (MemoOk.nil)) args) (fun args => memo_framed 60 _ args) (lookOf_nil))
noncomputable def pa12 : List AV := [pv9]
noncomputable def pr12 : AV := pv12
theorem pm12 : pr12.fresh = true ∧ CallPure PP 9 pa12 pr12 :=
  callPure_ran (n := 60) (lookN_ok pb6Ok.1 pb6Ok.2 mixed 100000 60).1 (by kernel_rfl) (by kernel_rfl)
noncomputable def pv13 : AV := (G [(I .i64 (1)), (I .i64 (2)), (I .i64 (1)), (I .i64 (1))])
noncomputable def pv14 : AV := (T [(V true 1 [(I .u8 (0)), (I .u8 (1)), (I .u8 (0)), (I .u8 (0)), (I .u8 (0)), (I .u8 (1)), (I .u8 (0)), (I .u8 (2)), (I .u8 (0)), (I .u8 (1)), (I .u8 (0)), (I .u8 (1))]), (I .i64 (0))])
noncomputable def pa13 : List AV := [pv0, pv13]
noncomputable def pr13 : AV := pv14
theorem pm13 : pr13.fresh = true ∧ CallPure PP 31 pa13 pr13 :=
  callPure_ran (n := 60) (lookN_ok pb0Ok.1 pb0Ok.2 mixed 100000 60).1 (by kernel_rfl) (by kernel_rfl)
noncomputable def pv15 : AV := (T [(V true 1 [(I .u8 (0)), (I .u8 (1)), (I .u8 (0)), (I .u8 (0)), (I .u8 (0)), (I .u8 (1)), (I .u8 (0)), (I .u8 (2)), (I .u8 (0)), (I .u8 (1)), (I .u8 (0)), (I .u8 (1)), (I .u8 (1)), (I .u8 (97)), (I .u8 (0)), (I .u8 (0)), (I .u8 (1)), (I .u8 (0)), (I .u8 (1)), (I .u8 (192)), (I .u8 (12)), (I .u8 (0)), (I .u8 (1)), (I .u8 (0)), (I .u8 (1)), (I .u8 (0)), (I .u8 (0)), (I .u8 (0)), (I .u8 (60)), (I .u8 (0)), (I .u8 (4)), (I .u8 (1)), (I .u8 (1)), (I .u8 (1)), (I .u8 (1)), (I .u8 (192)), (I .u8 (12)), (I .u8 (0)), (I .u8 (1)), (I .u8 (0)), (I .u8 (1)), (I .u8 (0)), (I .u8 (0)), (I .u8 (0)), (I .u8 (60)), (I .u8 (0)), (I .u8 (4)), (I .u8 (2)), (I .u8 (2)), (I .u8 (2)), (I .u8 (2)), (I .u8 (1)), (I .u8 (98)), (I .u8 (0)), (I .u8 (0)), (I .u8 (2)), (I .u8 (0)), (I .u8 (1)), (I .u8 (0)), (I .u8 (0)), (I .u8 (0)), (I .u8 (60)), (I .u8 (0)), (I .u8 (3)), (I .u8 (1)), (I .u8 (99)), (I .u8 (0)), (I .u8 (1)), (I .u8 (100)), (I .u8 (0)), (I .u8 (0)), (I .u8 (1)), (I .u8 (0)), (I .u8 (1)), (I .u8 (0)), (I .u8 (0)), (I .u8 (0)), (I .u8 (60)), (I .u8 (0)), (I .u8 (4)), (I .u8 (3)), (I .u8 (3)), (I .u8 (3)), (I .u8 (3))]), (I .i64 (0))])
noncomputable def pb7 : Look := lookOf [(31, false, memoM 60 [(pa13, pr13)])]
theorem pb7Ok : LookOk PP pb7 ∧ LookFr pb7 :=
  lookOf_cons (fun args => memo_call (MemoOk.cons pm13.1 pm13.2 (MemoOk.nil)) args) (fun args => memo_framed 60 _ args) (lookOf_nil)
noncomputable def pa14 : List AV := [pv0, (I .i64 (4))]
noncomputable def pr14 : AV := pv15
theorem pm14 : pr14.fresh = true ∧ CallPure PP 17 pa14 pr14 :=
  callPure_ran (n := 60) (lookN_ok pb7Ok.1 pb7Ok.2 mixed 100000 60).1 (by kernel_rfl) (by kernel_rfl)
noncomputable def pb8 : Look := lookOf [(11, false, memoM 60 [(pa0, pr0)]), (17, false, memoM 60 [(pa14, pr14)])]
theorem pb8Ok : LookOk PP pb8 ∧ LookFr pb8 :=
  lookOf_cons (fun args => memo_call (MemoOk.cons pm0.1 pm0.2 (MemoOk.nil)) args) (fun args => memo_framed 60 _ args) (lookOf_cons (fun args => memo_call (MemoOk.cons pm14.1 pm14.2 (MemoOk.nil)) args) (fun args => memo_framed 60 _ args) (lookOf_nil))
noncomputable def pa15 : List AV := [pv0]
noncomputable def pr15 : AV := pv15
theorem pm15 : pr15.fresh = true ∧ CallPure PP 9 pa15 pr15 :=
  callPure_ran (n := 60) (lookN_ok pb8Ok.1 pb8Ok.2 mixed 100000 60).1 (by kernel_rfl) (by kernel_rfl)
noncomputable def pv16 : AV := (T [(G [(I .u16 (1)), (B false), (I .i64 (0)), (B false), (B false), (B false), (B false), (B false), (B false), (I .i64 (0)), (V true 3 [(G [(V true 1 [(S [97])]), (I .u16 (1)), (I .u16 (1))])]), (V true 8 [(G [(V true 1 [(S [97])]), (I .u16 (1)), (I .u16 (1)), (I .u32 (60)), (N), (N), (N), (V true 1 [(I .u8 (1)), (I .u8 (1)), (I .u8 (1)), (I .u8 (1))])]), (G [(V true 1 [(S [97])]), (I .u16 (1)), (I .u16 (1)), (I .u32 (60)), (N), (N), (N), (V true 1 [(I .u8 (2)), (I .u8 (2)), (I .u8 (2)), (I .u8 (2))])])]), (V true 8 [(G [(V true 1 [(S [98])]), (I .u16 (2)), (I .u16 (1)), (I .u32 (60)), (V true 1 [(V true 1 [(S [99])])]), (N), (N), (N)])]), (V true 8 [(G [(V true 1 [(S [100])]), (I .u16 (1)), (I .u16 (1)), (I .u32 (60)), (N), (N), (N), (V true 1 [(I .u8 (3)), (I .u8 (3)), (I .u8 (3)), (I .u8 (3))])])])]), (I .i64 (0))])
noncomputable def pb9 : Look := lookOf [(11, false, memoM 60 [(pa0, pr0)]), (9, false, memoM 60 [(pa4, pr4), (pa8, pr8), (pa12, pr12), (pa15, pr15)])]
theorem pb9Ok : LookOk PP pb9 ∧ LookFr pb9 :=
  lookOf_cons (fun args => memo_call (MemoOk.cons pm0.1 pm0.2 (MemoOk.nil)) args) (fun args => memo_framed 60 _ args) (lookOf_cons (fun args => memo_call (MemoOk.cons pm4.1 pm4.2 (MemoOk.cons pm8.1 pm8.2 (MemoOk.cons pm12.1 pm12.2 (MemoOk.cons pm15.1 pm15.2 (MemoOk.nil))))) args) (fun args => memo_framed 60 _ args) (lookOf_nil))
noncomputable def pa16 : List AV := [pv0, (I .i64 (84))]
noncomputable def pr16 : AV := pv16
theorem pm16 : pr16.fresh = true ∧ CallPure PP 6 pa16 pr16 :=
  callPure_ran (n := 60) (lookN_ok pb9Ok.1 pb9Ok.2 mixed 100000 60).1 (by kernel_rfl) (by kernel_rfl)
noncomputable def pb10 : Look := lookOf [(6, false, memoM 60 [(pa16, pr16)]), (9, false, memoM 60 [(pa15, pr15)])]
theorem pb10Ok : LookOk PP pb10 ∧ LookFr pb10 :=
  lookOf_cons (fun args => memo_call (MemoOk.cons pm16.1 pm16.2 (MemoOk.nil)) args) (fun args => memo_framed 60 _ args) (lookOf_cons (fun args => memo_call (MemoOk.cons pm15.1 pm15.2 (MemoOk.nil)) args) (fun args => memo_framed 60 _ args) (lookOf_nil))
noncomputable def pa17 : List AV := [pv0, (I .i64 (84))]
noncomputable def pr17 : AV := pv15
theorem pm17 : pr17.fresh = true ∧ CallPure PP 4 pa17 pr17 :=
  callPure_ran (n := 60) (lookN_ok pb10Ok.1 pb10Ok.2 mixed 100000 60).1 (by kernel_rfl) (by kernel_rfl)
noncomputable def pv17 : AV := (T [(G [(I .u16 (1)), (B false), (I .i64 (0)), (B false), (B false), (B false), (B false), (B false), (B false), (I .i64 (0)), (V true 3 [(G [(V true 1 [(S [97])]), (I .u16 (1)), (I .u16 (1))])]), (V true 8 [(G [(V true 1 [(S [97])]), (I .u16 (1)), (I .u16 (1)), (I .u32 (60)), (N), (N), (N), (V true 1 [(I .u8 (1)), (I .u8 (1)), (I .u8 (1)), (I .u8 (1))])]), (G [(V true 1 [(S [97])]), (I .u16 (1)), (I .u16 (1)), (I .u32 (60)), (N), (N), (N), (V true 1 [(I .u8 (2)), (I .u8 (2)), (I .u8 (2)), (I .u8 (2))])])]), (V true 8 [(G [(V true 1 [(S [98])]), (I .u16 (2)), (I .u16 (1)), (I .u32 (60)), (V true 1 [(V true 1 [(S [99])])]), (N), (N), (N)])]), (V true 8 [])]), (I .i64 (0))])
noncomputable def pa18 : List AV := [pv0, (I .i64 (83))]
noncomputable def pr18 : AV := pv17
theorem pm18 : pr18.fresh = true ∧ CallPure PP 6 pa18 pr18 :=
  callPure_ran (n := 60) (lookN_ok pb9Ok.1 pb9Ok.2 mixed 100000 60).1 (by kernel_rfl) (by kernel_rfl)
noncomputable def pv18 : AV := (T [(G [(I .u16 (1)), (B false), (I .i64 (0)), (B false), (B true), (B false), (B false), (B false), (B false), (I .i64 (0)), (V true 3 [(G [(V true 1 [(S [97])]), (I .u16 (1)), (I .u16 (1))])]), (V true 8 [(G [(V true 1 [(S [97])]), (I .u16 (1)), (I .u16 (1)), (I .u32 (60)), (N), (N), (N), (V true 1 [(I .u8 (1)), (I .u8 (1)), (I .u8 (1)), (I .u8 (1))])]), (G [(V true 1 [(S [97])]), (I .u16 (1)), (I .u16 (1)), (I .u32 (60)), (N), (N), (N), (V true 1 [(I .u8 (2)), (I .u8 (2)), (I .u8 (2)), (I .u8 (2))])])]), (V true 8 []), (V true 8 [])]), (I .i64 (0))])
noncomputable def pb11 : Look := lookOf [(11, false, memoM 60 [(pa0, pr0)]), (9, false, memoM 60 [(pa4, pr4), (pa8, pr8), (pa12, pr12)])]
theorem pb11Ok : LookOk PP pb11 ∧ LookFr pb11 :=
  lookOf_cons (fun args => memo_call (MemoOk.cons pm0.1 pm0.2 (MemoOk.nil)) args) (fun args => memo_framed 60 _ args) (lookOf_cons (fun args => memo_call (MemoOk.cons pm4.1 pm4.2 (MemoOk.cons pm8.1 pm8.2 (MemoOk.cons pm12.1 pm12.2 (MemoOk.nil)))) args) (fun args => memo_framed 60 _ args) (lookOf_nil))
noncomputable def pa19 : List AV := [pv0, (I .i64 (66))]
noncomputable def pr19 : AV := pv18
theorem pm19 : pr19.fresh = true ∧ CallPure PP 6 pa19 pr19 :=
  callPure_ran (n := 60) (lookN_ok pb11Ok.1 pb11Ok.2 mixed 100000 60).1 (by kernel_rfl) (by kernel_rfl)
noncomputable def pa20 : List AV := [pv0, (I .i64 (51))]
noncomputable def pr20 : AV := pv18
theorem pm20 : pr20.fresh = true ∧ CallPure PP 6 pa20 pr20 :=
  callPure_ran (n := 60) (lookN_ok pb11Ok.1 pb11Ok.2 mixed 100000 60).1 (by kernel_rfl) (by kernel_rfl)
noncomputable def pv19 : AV := (T [(G [(I .u16 (1)), (B false), (I .i64 (0)), (B false), (B true), (B false), (B false), (B false), (B false), (I .i64 (0)), (V true 3 [(G [(V true 1 [(S [97])]), (I .u16 (1)), (I .u16 (1))])]), (V true 8 []), (V true 8 []), (V true 8 [])]), (I .i64 (0))])
noncomputable def pb12 : Look := lookOf [(11, false, memoM 60 [(pa0, pr0)]), (9, false, memoM 60 [(pa4, pr4), (pa8, pr8)])]
theorem pb12Ok : LookOk PP pb12 ∧ LookFr pb12 :=
  lookOf_cons (fun args => memo_call (MemoOk.cons pm0.1 pm0.2 (MemoOk.nil)) args) (fun args => memo_framed 60 _ args) (lookOf_cons (fun args => memo_call (MemoOk.cons pm4.1 pm4.2 (MemoOk.cons pm8.1 pm8.2 (MemoOk.nil))) args) (fun args => memo_framed 60 _ args) (lookOf_nil))
noncomputable def pa21 : List AV := [pv0, (I .i64 (50))]
noncomputable def pr21 : AV := pv19
theorem pm21 : pr21.fresh = true ∧ CallPure PP 6 pa21 pr21 :=
  callPure_ran (n := 60) (lookN_ok pb12Ok.1 pb12Ok.2 mixed 100000 60).1 (by kernel_rfl) (by kernel_rfl)
noncomputable def pa22 : List AV := [pv0, (I .i64 (19))]
noncomputable def pr22 : AV := pv19
theorem pm22 : pr22.fresh = true ∧ CallPure PP 6 pa22 pr22 :=
  callPure_ran (n := 60) (lookN_ok pb12Ok.1 pb12Ok.2 mixed 100000 60).1 (by kernel_rfl) (by kernel_rfl)
noncomputable def pv20 : AV := (T [(G [(I .u16 (0)), (B false), (I .i64 (0)), (B false), (B false), (B false), (B false), (B false), (B false), (I .i64 (0)), (N), (N), (N), (N)]), (I .i64 (3))])
noncomputable def pb13 : Look := lookOf [(11, false, memoM 60 [(pa0, pr0)]), (9, false, memoM 60 [(pa4, pr4)])]
theorem pb13Ok : LookOk PP pb13 ∧ LookFr pb13 :=
  lookOf_cons (fun args => memo_call (MemoOk.cons pm0.1 pm0.2 (MemoOk.nil)) args) (fun args => memo_framed 60 _ args) (lookOf_cons (fun args => memo_call (MemoOk.cons pm4.1 pm4.2 (MemoOk.nil)) args) (fun args => memo_framed 60 _ args) (lookOf_nil))
noncomputable def pa23 : List AV := [pv0, (I .i64 (18))]
noncomputable def pr23 : AV := pv20
theorem pm23 : pr23.fresh = true ∧ CallPure PP 6 pa23 pr23 :=
  callPure_ran (n := 60) (lookN_ok pb13Ok.1 pb13Ok.2 mixed 100000 60).1 (by kernel_rfl) (by kernel_rfl)
noncomputable def pa24 : List AV := [pv0, (I .i64 (67))]
noncomputable def pr24 : AV := pv17
theorem pm24 : pr24.fresh = true ∧ CallPure PP 6 pa24 pr24 :=
  callPure_ran (n := 60) (lookN_ok pb9Ok.1 pb9Ok.2 mixed 100000 60).1 (by kernel_rfl) (by kernel_rfl)
noncomputable def pb14 : Look := lookOf [(6, false, memoM 60 [(pa19, pr19)]), (9, false, memoM 60 [(pa8, pr8)])]
theorem pb14Ok : LookOk PP pb14 ∧ LookFr pb14 :=
  lookOf_cons (fun args => memo_call (MemoOk.cons pm19.1 pm19.2 (MemoOk.nil)) args) (fun args => memo_framed 60 _ args) (lookOf_cons (fun args => memo_call (MemoOk.cons pm8.1 pm8.2 (MemoOk.nil)) args) (fun args => memo_framed 60 _ args) (lookOf_nil))
noncomputable def pa25 : List AV := [pv0, (I .i64 (66))]
noncomputable def pr25 : AV := pv8
theorem pm25 : pr25.fresh = true ∧ CallPure PP 4 pa25 pr25 :=
  callPure_ran (n := 60) (lookN_ok pb14Ok.1 pb14Ok.2 mixed 100000 60).1 (by kernel_rfl) (by kernel_rfl)
noncomputable def pb15 : Look := lookOf [(6, false, memoM 60 [(pa24, pr24)]), (4, false, memoM 60 [(pa25, pr25)])]
theorem pb15Ok : LookOk PP pb15 ∧ LookFr pb15 :=
  lookOf_cons (fun args => memo_call (MemoOk.cons pm24.1 pm24.2 (MemoOk.nil)) args) (fun args => memo_framed 60 _ args) (lookOf_cons (fun args => memo_call (MemoOk.cons pm25.1 pm25.2 (MemoOk.nil)) args) (fun args => memo_framed 60 _ args) (lookOf_nil))
noncomputable def pa26 : List AV := []
noncomputable def pr26 : AV := (B true)
theorem pm26 : pr26.fresh = true ∧ CallPure PP 8 pa26 pr26 :=
  callPure_ran (n := 60) (lookN_ok pb15Ok.1 pb15Ok.2 mixed 100000 60).1 (by kernel_rfl) (by kernel_rfl)
noncomputable def base : Look := lookOf [(4, false, memoM 60 [(pa17, pr17)]), (6, false, memoM 60 [(pa16, pr16), (pa18, pr18), (pa19, pr19), (pa20, pr20), (pa21, pr21), (pa22, pr22), (pa23, pr23)]), (8, false, memoM 60 [(pa26, pr26)])]
theorem baseOk : LookOk PP base ∧ LookFr base :=
  lookOf_cons (fun args => memo_call (MemoOk.cons pm17.1 pm17.2 (MemoOk.nil)) args) (fun args => memo_framed 60 _ args) (lookOf_cons (fun args => memo_call (MemoOk.cons pm16.1 pm16.2 (MemoOk.cons pm18.1 pm18.2 (MemoOk.cons pm19.1 pm19.2 (MemoOk.cons pm20.1 pm20.2 (MemoOk.cons pm21.1 pm21.2 (MemoOk.cons pm22.1 pm22.2 (MemoOk.cons pm23.1 pm23.2 (MemoOk.nil)))))))) args) (fun args => memo_framed 60 _ args) (lookOf_cons (fun args => memo_call (MemoOk.cons pm26.1 pm26.2 (MemoOk.nil)) args) (fun args => memo_framed 60 _ args) (lookOf_nil)))
noncomputable def look : Look := lookN PP base 100000 60
theorem lookOk : LookOk PP look := (lookN_ok baseOk.1 baseOk.2 mixed 100000 60).1
noncomputable def okRun (r : Option (AV × St)) : Bool := match r with | some p => (match p.1 with | .sc v => (match v with | .bool b => b | _ => false) | _ => false) | none => false
noncomputable def unkA : AC Unit := aU (Try.f3.params.toList.map (shapeU PP))
noncomputable def runOf (f : Nat) : Option (AV × St) := match look f with | some p => p.2 (unkA.E ()) (stK []) | none => none
set_option maxRecDepth 1000000
theorem runs : okRun (runOf 3) = true := by kernel_rfl
theorem okRun_some {r : Option (AV × St)} (h : okRun r = true) : ∃ st, r = some (.sc (.bool true), st) := by
  unfold okRun at h
  split at h
  · rename_i p
    obtain ⟨a, st⟩ := p
    dsimp only at h
    split at h
    · split at h
      · subst h; exact ⟨st, rfl⟩
      · cases h
    · cases h
  · cases h
theorem law_pure : CallPure PP 3 (unkA.E ()) (.sc (.bool true)) := by
  obtain ⟨st, h⟩ := okRun_some runs
  unfold runOf at h
  cases hp : look 3 with
  | none => rw [hp] at h; cases h
  | some p =>
    rw [hp] at h
    exact callPure_of_run lookOk hp (by kernel_rfl) (r1 codBool) true true h rfl

theorem own : ownKnob PP.godebug = none := by kernel_rfl
theorem undBool : PP.underlying 4 = some .bool := by kernel_rfl
theorem lifted (os : Os) (started : os.Started) (H : Type) (enc : TypeId × Value → H) :
    ReturnsInHanded {} Try.checked os 3 .any (Rows.fitKnownSpec.pre6 enc Try.prog Try.f3 Rows.fitKnownRow.domain false) (Rows.fitKnownSpec.post enc Try.prog Try.f3 false true false false) := by
  refine returnsInHanded_of_change (C := Try.checked) own started (by kernel_rfl) Try.func3
    (ChangeSpec.witness6 (enc := enc) (C := Try.checked) false ⟨#[], Try.f3.params.map fun t => ((PP.info? t).bind (·.zero)).getD undef, []⟩ 8 (by kernel_rfl) (by kernel_rfl) (by kernel_rfl) (by kernel_rfl)) ?_
  intro W base args ds gs before hval hW _ _
  exact law_post (by kernel_rfl) (by kernel_rfl) (slicesFull_at (by kernel_rfl)) (tb := 4) (by kernel_rfl) rfl (by kernel_rfl) undBool (typesIn_at (by kernel_rfl))
    (fun H ds hl => by match ds, (show ds.length = 0 from hl) with | [], _ => rfl) (A := unkA) (rdA_unk _) (N := none) (fun _ _ => law_pure) enc W base args ds gs before hval hW (fun n hn => by cases hn)
theorem over : Rows.fitKnownRow.holds Try.pinned (OpenSpec.ofChange Rows.fitKnownSpec) :=
  OpenClaim.holds_of_wide 3 Try.f3 rfl rfl rfl rfl rfl rfl rfl ⟨rfl, rfl, rfl, rfl, rfl⟩ rfl rfl rfl rfl rfl (by kernel_rfl) Try.func3 (by kernel_rfl)
    (of_decide_eq_true (by kernel_rfl)) (by unfold Func.isWrapper; first | (rw [if_pos (by decide +kernel)]; kernel_rfl) | (rw [if_neg (by decide +kernel)]; exact ⟨rfl, rfl⟩))
    (fun os started H enc _ => lifted os started H enc)
theorem proved : Rows.FitKnownSaid := over

end Go.Proofs.Ytfafccmcholciaa.fitKnown
