/- GoastLess (avocetlaw24) holds, as the tied card says it: a program that may be may be without any one of its functions, and of its structs, and it has fewer parts then. No conditions. Part 4 of 6 of the proof. -/
import Derived.Test.YtombghldgdcjcaaDoorGoastLessc
/- goast.SameType, SameExpr, sameStmt. -/
namespace Go.Proofs.YtombghldgdcjcaaDoor
open Go.RowKit Go.Av Go.Ab
set_option linter.unusedSimpArgs false
set_option maxRecDepth 100000
noncomputable def k30_0 : Code := bodyOf Tryd.f30
noncomputable def k30_1 : Code := lft k30_0
noncomputable def o30_1 : Array Oper := opsOf k30_1
noncomputable def k30_2 : Code := rgt k30_0
noncomputable def k30_3 : Code := lft k30_2
noncomputable def k30_4 : Code := lft k30_3
noncomputable def o30_4 : Array Oper := opsOf k30_4
noncomputable def k30_5 : Code := rgt k30_3
noncomputable def k30_6 : Code := lft k30_5
noncomputable def k30_7 : Code := lft k30_6
noncomputable def o30_7 : Array Oper := opsOf k30_7
noncomputable def k30_8 : Code := rgt k30_6
noncomputable def k30_9 : Code := rgt k30_5
noncomputable def k30_10 : Code := rgt k30_2
noncomputable def k30_11 : Code := lft k30_10
noncomputable def k30_12 : Code := lft k30_11
noncomputable def o30_12 : Array Oper := opsOf k30_12
noncomputable def k30_13 : Code := rgt k30_11
noncomputable def k30_14 : Code := lft k30_13
noncomputable def k30_15 : Code := lft k30_14
noncomputable def k30_16 : Code := lft k30_15
noncomputable def o30_16 : Array Oper := opsOf k30_16
noncomputable def k30_17 : Code := rgt k30_15
noncomputable def k30_18 : Code := lft k30_17
noncomputable def k30_19 : Code := lft k30_18
noncomputable def k30_20 : Code := rgt k30_18
noncomputable def k30_21 : Code := rgt k30_17
noncomputable def k30_22 : Code := lft k30_21
noncomputable def k30_23 : Code := lft k30_22
noncomputable def k30_24 : Code := lft k30_23
noncomputable def o30_24 : Array Oper := opsOf k30_24
noncomputable def k30_25 : Code := rgt k30_23
noncomputable def k30_26 : Code := lft k30_25
noncomputable def o30_26 : Array Oper := opsOf k30_26
noncomputable def p30_26_0 : Oper := opAt o30_26 0
noncomputable def p30_26_1 : Oper := opAt o30_26 1
noncomputable def p30_26_2 : Oper := opAt o30_26 2
noncomputable def p30_26_3 : Oper := opAt o30_26 3
noncomputable def p30_26_4 : Oper := opAt o30_26 4
noncomputable def p30_26_5 : Oper := opAt o30_26 5
noncomputable def p30_26_6 : Oper := opAt o30_26 6
noncomputable def p30_26_7 : Oper := opAt o30_26 7
noncomputable def p30_26_8 : Oper := opAt o30_26 8
noncomputable def k30_27 : Code := rgt k30_25
noncomputable def k30_28 : Code := lft k30_27
noncomputable def k30_29 : Code := lft k30_28
noncomputable def o30_29 : Array Oper := opsOf k30_29
noncomputable def k30_30 : Code := rgt k30_28
noncomputable def k30_31 : Code := rgt k30_27
noncomputable def k30_32 : Code := rgt k30_21
noncomputable def o30_32 : Array Oper := opsOf k30_32
noncomputable def k30_33 : Code := rgt k30_10
noncomputable def k30_34 : Code := lft k30_33
noncomputable def o30_34 : Array Oper := opsOf k30_34
noncomputable def k30_35 : Code := rgt k30_33
theorem c30s (I : Inv) (next stop : Cont) (k : List Item) (env : List V) (S : Mem) : (codeS I next stop k30_1 k env S = next (.inRegion o30_1 [0] :: k) env S) ∧
  (codeS I next stop k30_4 k env S = next (.inRegion o30_4 [0, 1, 2, 3, 4] :: k) env S) ∧
  (codeS I next stop k30_7 k env S = next (.inRegion o30_7 [0] :: k) env S) ∧
  (codeS I next stop k30_8 k env S = stop (.code .ret :: k) env S) ∧
  (codeS I next stop k30_6 k env S = next (.code k30_7 :: .code k30_8 :: k) env S) ∧
  (codeS I next stop k30_9 k env S = next k env S) ∧
  (codeS I next stop k30_5 k env S = condV next (evalV I env (.tmp 10)) k30_6 k30_9 k env S) ∧
  (codeS I next stop k30_3 k env S = next (.code k30_4 :: .code k30_5 :: k) env S) ∧
  (codeS I next stop k30_12 k env S = next (.inRegion o30_12 [0, 1, 2] :: k) env S) ∧
  (codeS I next stop k30_16 k env S = next (.inRegion o30_16 [0] :: k) env S) ∧
  (codeS I next stop k30_19 k env S = next k env S) ∧
  (codeS I next stop k30_20 k env S = exitV next (exitTo 0 k) env S) ∧
  (codeS I next stop k30_18 k env S = condV next (evalV I env (.tmp 14)) k30_19 k30_20 k env S) ∧
  (codeS I next stop k30_24 k env S = next (.inRegion o30_24 [0, 1] :: k) env S) ∧
  (codeS I next stop k30_26 k env S = stop (.code (.region 6 o30_26 true) :: k) env S) ∧
  (codeS I next stop k30_29 k env S = next (.inRegion o30_29 [0] :: k) env S) ∧
  (codeS I next stop k30_30 k env S = stop (.code .ret :: k) env S) ∧
  (codeS I next stop k30_28 k env S = next (.code k30_29 :: .code k30_30 :: k) env S) ∧
  (codeS I next stop k30_31 k env S = next k env S) ∧
  (codeS I next stop k30_27 k env S = condV next (evalV I env (.tmp 24)) k30_28 k30_31 k env S) ∧
  (codeS I next stop k30_25 k env S = next (.code k30_26 :: .code k30_27 :: k) env S) ∧
  (codeS I next stop k30_23 k env S = next (.code k30_24 :: .code k30_25 :: k) env S) ∧
  (codeS I next stop k30_22 k env S = next (.code k30_23 :: .inBlock 1 :: k) env S) ∧
  (codeS I next stop k30_32 k env S = next (.inRegion o30_32 [0, 1] :: k) env S) ∧
  (codeS I next stop k30_21 k env S = next (.code k30_22 :: .code k30_32 :: k) env S) ∧
  (codeS I next stop k30_17 k env S = next (.code k30_18 :: .code k30_21 :: k) env S) ∧
  (codeS I next stop k30_15 k env S = next (.code k30_16 :: .code k30_17 :: k) env S) ∧
  (codeS I next stop k30_14 k env S = stop (.code (.loop k30_15) :: k) env S) ∧
  (codeS I next stop k30_13 k env S = next (.code k30_14 :: .inBlock 0 :: k) env S) ∧
  (codeS I next stop k30_11 k env S = next (.code k30_12 :: .code k30_13 :: k) env S) ∧
  (codeS I next stop k30_34 k env S = next (.inRegion o30_34 [0] :: k) env S) ∧
  (codeS I next stop k30_35 k env S = stop (.code .ret :: k) env S) ∧
  (codeS I next stop k30_33 k env S = next (.code k30_34 :: .code k30_35 :: k) env S) ∧
  (codeS I next stop k30_10 k env S = next (.code k30_11 :: .code k30_33 :: k) env S) ∧
  (codeS I next stop k30_2 k env S = next (.code k30_3 :: .code k30_10 :: k) env S) ∧
  (codeS I next stop k30_0 k env S = next (.code k30_1 :: .code k30_2 :: k) env S) := by
  repeat' apply And.intro
  all_goals kernel_rfl
theorem c30r (P : Program) (I : Inv) (next stop : Cont) (rest : List Nat) (k : List Item) (env : List V) (S : Mem) : (regS P I next stop o30_1 0 rest k env S = bindS next (op1 P (evalV I env) S (.assign (.const (.bool false)))) (.inRegion o30_1 rest :: k) (some 4) env) ∧
  (regS P I next stop o30_4 0 rest k env S = bindS next (op1 P (evalV I env) S (.move (.tmp 0))) (.inRegion o30_4 rest :: k) (some 6) env) ∧
  (regS P I next stop o30_4 1 rest k env S = bindS next (opCall P (evalV I env) S { callee := .builtin .len, args := #[.tmp 6], argTypes := #[35] }) (.inRegion o30_4 rest :: k) (some 7) env) ∧
  (regS P I next stop o30_4 2 rest k env S = bindS next (op1 P (evalV I env) S (.move (.tmp 1))) (.inRegion o30_4 rest :: k) (some 8) env) ∧
  (regS P I next stop o30_4 3 rest k env S = bindS next (opCall P (evalV I env) S { callee := .builtin .len, args := #[.tmp 8], argTypes := #[35] }) (.inRegion o30_4 rest :: k) (some 9) env) ∧
  (regS P I next stop o30_4 4 rest k env S = bindS next (op1 P (evalV I env) S (.binOp .neq 3 (.tmp 7) (.tmp 9) 3)) (.inRegion o30_4 rest :: k) (some 10) env) ∧
  (regS P I next stop o30_7 0 rest k env S = bindS next (op1 P (evalV I env) S (.assign (.const (.bool false)))) (.inRegion o30_7 rest :: k) (some 4) env) ∧
  (regS P I next stop o30_12 0 rest k env S = bindS next (op1 P (evalV I env) S (.move (.tmp 0))) (.inRegion o30_12 rest :: k) (some 11) env) ∧
  (regS P I next stop o30_12 1 rest k env S = bindS next (opCall P (evalV I env) S { callee := .builtin .len, args := #[.tmp 11], argTypes := #[35] }) (.inRegion o30_12 rest :: k) (some 12) env) ∧
  (regS P I next stop o30_12 2 rest k env S = bindS next (op1 P (evalV I env) S (.move (.const (.int .i64 0)))) (.inRegion o30_12 rest :: k) (some 13) env) ∧
  (regS P I next stop o30_16 0 rest k env S = bindS next (op1 P (evalV I env) S (.binOp .lss 3 (.tmp 13) (.tmp 12) 3)) (.inRegion o30_16 rest :: k) (some 14) env) ∧
  (regS P I next stop o30_24 0 rest k env S = bindS next (op1 P (evalV I env) S (.move (.tmp 13))) (.inRegion o30_24 rest :: k) (some 15) env) ∧
  (regS P I next stop o30_24 1 rest k env S = bindS next (op1 P (evalV I env) S (.assign (.tmp 15))) (.inRegion o30_24 rest :: k) (some 5) env) ∧
  (regS P I next stop o30_29 0 rest k env S = bindS next (op1 P (evalV I env) S (.assign (.const (.bool false)))) (.inRegion o30_29 rest :: k) (some 4) env) ∧
  (regS P I next stop o30_32 0 rest k env S = bindS next (op1 P (evalV I env) S (.binOp .add 3 (.tmp 13) (.const (.int .i64 1)) 3)) (.inRegion o30_32 rest :: k) (some 25) env) ∧
  (regS P I next stop o30_32 1 rest k env S = bindS next (op1 P (evalV I env) S (.move (.tmp 25))) (.inRegion o30_32 rest :: k) (some 13) env) ∧
  (regS P I next stop o30_34 0 rest k env S = bindS next (op1 P (evalV I env) S (.assign (.const (.bool true)))) (.inRegion o30_34 rest :: k) (some 4) env) := by
  repeat' apply And.intro
  all_goals kernel_rfl
theorem c30q (P : Program) (I : Inv) (nq : LCont) (S : Mem) (l : List Oper) (env : List V) : (stepQ P I o30_26 nq S p30_26_0 l env = bindQ nq S (op1 P (evalV I env) S (.move (.tmp 0))) l (some 16) env) ∧
  (stepQ P I o30_26 nq S p30_26_1 l env = bindQ nq S (op1 P (evalV I env) S (.move (.tmp 5))) l (some 17) env) ∧
  (stepQ P I o30_26 nq S p30_26_2 l env = bindQ nq S (op1 P (evalV I env) S (.indexAddr 35 (.tmp 16) (.tmp 17))) l (some 18) env) ∧
  (stepQ P I o30_26 nq S p30_26_3 l env = bindQ nq S (op1 P (evalV I env) S (.load 9 (.tmp 18))) l (some 19) env) ∧
  (stepQ P I o30_26 nq S p30_26_4 l env = bindQ nq S (op1 P (evalV I env) S (.move (.tmp 1))) l (some 20) env) ∧
  (stepQ P I o30_26 nq S p30_26_5 l env = bindQ nq S (op1 P (evalV I env) S (.move (.tmp 5))) l (some 21) env) ∧
  (stepQ P I o30_26 nq S p30_26_6 l env = bindQ nq S (op1 P (evalV I env) S (.indexAddr 35 (.tmp 20) (.tmp 21))) l (some 22) env) ∧
  (stepQ P I o30_26 nq S p30_26_7 l env = bindQ nq S (op1 P (evalV I env) S (.load 9 (.tmp 22))) l (some 23) env) ∧
  (stepQ P I o30_26 nq S p30_26_8 l env = bindQ nq S (op1 P (evalV I env) S (.binOp .neq 9 (.tmp 19) (.tmp 23) 9)) l (some 24) env) := by
  repeat' apply And.intro
  all_goals kernel_rfl
theorem c30t  : (o30_26.toList = [p30_26_0, p30_26_1, p30_26_2, p30_26_3, p30_26_4, p30_26_5, p30_26_6, p30_26_7, p30_26_8]) := by
  all_goals kernel_rfl
set_option linter.defProp false in
/-- All of these. -/
def c30 := And.intro @c30s ( And.intro @c30r ( And.intro @c30q (@c30t)))
noncomputable def k19_0 : Code := bodyOf Tryd.f19
noncomputable def k19_1 : Code := lft k19_0
noncomputable def o19_1 : Array Oper := opsOf k19_1
noncomputable def k19_2 : Code := rgt k19_0
noncomputable def k19_3 : Code := lft k19_2
noncomputable def o19_3 : Array Oper := opsOf k19_3
noncomputable def p19_3_6 : Oper := opAt o19_3 6
noncomputable def p19_3_7 : Oper := opAt o19_3 7
noncomputable def p19_3_8 : Oper := opAt o19_3 8
noncomputable def p19_3_9 : Oper := opAt o19_3 9
noncomputable def p19_3_10 : Oper := opAt o19_3 10
noncomputable def p19_3_13 : Oper := opAt o19_3 13
noncomputable def p19_3_14 : Oper := opAt o19_3 14
noncomputable def p19_3_15 : Oper := opAt o19_3 15
noncomputable def p19_3_16 : Oper := opAt o19_3 16
noncomputable def p19_3_17 : Oper := opAt o19_3 17
noncomputable def k19_4 : Code := rgt k19_2
theorem c19s (I : Inv) (next stop : Cont) (k : List Item) (env : List V) (S : Mem) : (codeS I next stop k19_1 k env S = next (.inRegion o19_1 [0, 1, 2] :: k) env S) ∧
  (codeS I next stop k19_3 k env S = next (.inRegion o19_3 [0, 1, 2, 3, 4, 5, 6, 7, 8, 9, 10, 11, 12, 13, 14, 15, 16, 17, 18, 19] :: k) env S) ∧
  (codeS I next stop k19_4 k env S = stop (.code .ret :: k) env S) ∧
  (codeS I next stop k19_2 k env S = next (.code k19_3 :: .code k19_4 :: k) env S) ∧
  (codeS I next stop k19_0 k env S = next (.code k19_1 :: .code k19_2 :: k) env S) := by
  repeat' apply And.intro
  all_goals kernel_rfl
theorem c19r (P : Program) (I : Inv) (next stop : Cont) (rest : List Nat) (k : List Item) (env : List V) (S : Mem) : (regS P I next stop o19_1 0 rest k env S = bindS next (op1 P (evalV I env) S (.box 34 (.tmp 0))) (.inRegion o19_1 rest :: k) (some 2) env) ∧
  (regS P I next stop o19_1 1 rest k env S = bindS next (op1 P (evalV I env) S (.box 34 (.tmp 1))) (.inRegion o19_1 rest :: k) (some 3) env) ∧
  (regS P I next stop o19_1 2 rest k env S = bindS next (op1 P (evalV I env) S (.assign (.const (.bool false)))) (.inRegion o19_1 rest :: k) (some 4) env) ∧
  (regS P I next stop o19_3 0 rest k env S = bindS next (op1 P (evalV I env) S (.fieldAddr 34 (.tmp 2) 0)) (.inRegion o19_3 rest :: k) (some 5) env) ∧
  (regS P I next stop o19_3 1 rest k env S = bindS next (op1 P (evalV I env) S (.load 3 (.tmp 5))) (.inRegion o19_3 rest :: k) (some 6) env) ∧
  (regS P I next stop o19_3 2 rest k env S = bindS next (op1 P (evalV I env) S (.fieldAddr 34 (.tmp 3) 0)) (.inRegion o19_3 rest :: k) (some 7) env) ∧
  (regS P I next stop o19_3 3 rest k env S = bindS next (op1 P (evalV I env) S (.load 3 (.tmp 7))) (.inRegion o19_3 rest :: k) (some 8) env) ∧
  (regS P I next stop o19_3 4 rest k env S = bindS next (op1 P (evalV I env) S (.binOp .eql 3 (.tmp 6) (.tmp 8) 3)) (.inRegion o19_3 rest :: k) (some 9) env) ∧
  (regS P I next stop o19_3 5 rest k env S = bindS next (op1 P (evalV I env) S (.move (.tmp 9))) (.inRegion o19_3 rest :: k) (some 10) env) ∧
  (regS P I next stop o19_3 6 rest k env S = guardS P I next stop (env.getD 10 .undef) true o19_3 rest p19_3_6 k env S) ∧
  (doOp P I next stop o19_3 rest p19_3_6 k env S = bindS next (op1 P (evalV I env) S (.fieldAddr 34 (.tmp 2) 1)) (.inRegion o19_3 rest :: k) (some 11) env) ∧
  (regS P I next stop o19_3 7 rest k env S = guardS P I next stop (env.getD 10 .undef) true o19_3 rest p19_3_7 k env S) ∧
  (doOp P I next stop o19_3 rest p19_3_7 k env S = bindS next (op1 P (evalV I env) S (.load 9 (.tmp 11))) (.inRegion o19_3 rest :: k) (some 12) env) ∧
  (regS P I next stop o19_3 8 rest k env S = guardS P I next stop (env.getD 10 .undef) true o19_3 rest p19_3_8 k env S) ∧
  (doOp P I next stop o19_3 rest p19_3_8 k env S = bindS next (op1 P (evalV I env) S (.fieldAddr 34 (.tmp 3) 1)) (.inRegion o19_3 rest :: k) (some 13) env) ∧
  (regS P I next stop o19_3 9 rest k env S = guardS P I next stop (env.getD 10 .undef) true o19_3 rest p19_3_9 k env S) ∧
  (doOp P I next stop o19_3 rest p19_3_9 k env S = bindS next (op1 P (evalV I env) S (.load 9 (.tmp 13))) (.inRegion o19_3 rest :: k) (some 14) env) ∧
  (regS P I next stop o19_3 10 rest k env S = guardS P I next stop (env.getD 10 .undef) true o19_3 rest p19_3_10 k env S) ∧
  (doOp P I next stop o19_3 rest p19_3_10 k env S = bindS next (op1 P (evalV I env) S (.binOp .eql 9 (.tmp 12) (.tmp 14) 9)) (.inRegion o19_3 rest :: k) (some 15) env) ∧
  (regS P I next stop o19_3 11 rest k env S = bindS next (op1 P (evalV I env) S (.pick (.tmp 10) (.tmp 15) (.const (.bool false)))) (.inRegion o19_3 rest :: k) (some 16) env) ∧
  (regS P I next stop o19_3 12 rest k env S = bindS next (op1 P (evalV I env) S (.move (.tmp 16))) (.inRegion o19_3 rest :: k) (some 17) env) ∧
  (regS P I next stop o19_3 13 rest k env S = guardS P I next stop (env.getD 17 .undef) true o19_3 rest p19_3_13 k env S) ∧
  (doOp P I next stop o19_3 rest p19_3_13 k env S = bindS next (op1 P (evalV I env) S (.fieldAddr 34 (.tmp 2) 2)) (.inRegion o19_3 rest :: k) (some 18) env) ∧
  (regS P I next stop o19_3 14 rest k env S = guardS P I next stop (env.getD 17 .undef) true o19_3 rest p19_3_14 k env S) ∧
  (doOp P I next stop o19_3 rest p19_3_14 k env S = bindS next (op1 P (evalV I env) S (.load 32 (.tmp 18))) (.inRegion o19_3 rest :: k) (some 19) env) ∧
  (regS P I next stop o19_3 15 rest k env S = guardS P I next stop (env.getD 17 .undef) true o19_3 rest p19_3_15 k env S) ∧
  (doOp P I next stop o19_3 rest p19_3_15 k env S = bindS next (op1 P (evalV I env) S (.fieldAddr 34 (.tmp 3) 2)) (.inRegion o19_3 rest :: k) (some 20) env) ∧
  (regS P I next stop o19_3 16 rest k env S = guardS P I next stop (env.getD 17 .undef) true o19_3 rest p19_3_16 k env S) ∧
  (doOp P I next stop o19_3 rest p19_3_16 k env S = bindS next (op1 P (evalV I env) S (.load 32 (.tmp 20))) (.inRegion o19_3 rest :: k) (some 21) env) ∧
  (regS P I next stop o19_3 17 rest k env S = guardS P I next stop (env.getD 17 .undef) true o19_3 rest p19_3_17 k env S) ∧
  (doOp P I next stop o19_3 rest p19_3_17 k env S = callS P I stop (evalV I env (.func 23)) [evalV I env (.tmp 19), evalV I env (.tmp 21), evalV I env (.func 19)] (.inRegion o19_3 rest :: k) (some 22) env S) ∧
  (regS P I next stop o19_3 18 rest k env S = bindS next (op1 P (evalV I env) S (.pick (.tmp 17) (.tmp 22) (.const (.bool false)))) (.inRegion o19_3 rest :: k) (some 23) env) ∧
  (regS P I next stop o19_3 19 rest k env S = bindS next (op1 P (evalV I env) S (.assign (.tmp 23))) (.inRegion o19_3 rest :: k) (some 4) env) := by
  repeat' apply And.intro
  all_goals kernel_rfl
theorem c19t  : (p19_3_6.dst = (some 11)) ∧
  (p19_3_7.dst = (some 12)) ∧
  (p19_3_8.dst = (some 13)) ∧
  (p19_3_9.dst = (some 14)) ∧
  (p19_3_10.dst = (some 15)) ∧
  (p19_3_13.dst = (some 18)) ∧
  (p19_3_14.dst = (some 19)) ∧
  (p19_3_15.dst = (some 20)) ∧
  (p19_3_16.dst = (some 21)) ∧
  (p19_3_17.dst = (some 22)) := by
  repeat' apply And.intro
  all_goals kernel_rfl
set_option linter.defProp false in
/-- All of these. -/
def c19 := And.intro @c19s ( And.intro @c19r (@c19t))
noncomputable def k12_0 : Code := bodyOf Tryd.f12
noncomputable def k12_1 : Code := lft k12_0
noncomputable def o12_1 : Array Oper := opsOf k12_1
noncomputable def k12_2 : Code := rgt k12_0
noncomputable def k12_3 : Code := lft k12_2
noncomputable def o12_3 : Array Oper := opsOf k12_3
noncomputable def p12_3_6 : Oper := opAt o12_3 6
noncomputable def p12_3_7 : Oper := opAt o12_3 7
noncomputable def p12_3_8 : Oper := opAt o12_3 8
noncomputable def p12_3_9 : Oper := opAt o12_3 9
noncomputable def p12_3_10 : Oper := opAt o12_3 10
noncomputable def p12_3_13 : Oper := opAt o12_3 13
noncomputable def p12_3_14 : Oper := opAt o12_3 14
noncomputable def p12_3_15 : Oper := opAt o12_3 15
noncomputable def p12_3_16 : Oper := opAt o12_3 16
noncomputable def p12_3_17 : Oper := opAt o12_3 17
noncomputable def p12_3_20 : Oper := opAt o12_3 20
noncomputable def p12_3_21 : Oper := opAt o12_3 21
noncomputable def p12_3_22 : Oper := opAt o12_3 22
noncomputable def p12_3_23 : Oper := opAt o12_3 23
noncomputable def p12_3_24 : Oper := opAt o12_3 24
noncomputable def p12_3_27 : Oper := opAt o12_3 27
noncomputable def p12_3_28 : Oper := opAt o12_3 28
noncomputable def p12_3_29 : Oper := opAt o12_3 29
noncomputable def p12_3_30 : Oper := opAt o12_3 30
noncomputable def p12_3_31 : Oper := opAt o12_3 31
noncomputable def p12_3_34 : Oper := opAt o12_3 34
noncomputable def p12_3_35 : Oper := opAt o12_3 35
noncomputable def p12_3_36 : Oper := opAt o12_3 36
noncomputable def p12_3_37 : Oper := opAt o12_3 37
noncomputable def p12_3_38 : Oper := opAt o12_3 38
noncomputable def k12_4 : Code := rgt k12_2
theorem c12s (I : Inv) (next stop : Cont) (k : List Item) (env : List V) (S : Mem) : (codeS I next stop k12_1 k env S = next (.inRegion o12_1 [0, 1, 2] :: k) env S) ∧
  (codeS I next stop k12_3 k env S = next (.inRegion o12_3 [0, 1, 2, 3, 4, 5, 6, 7, 8, 9, 10, 11, 12, 13, 14, 15, 16, 17, 18, 19, 20, 21, 22, 23, 24, 25, 26, 27, 28, 29, 30, 31, 32, 33, 34, 35, 36, 37, 38, 39, 40] :: k) env S) ∧
  (codeS I next stop k12_4 k env S = stop (.code .ret :: k) env S) ∧
  (codeS I next stop k12_2 k env S = next (.code k12_3 :: .code k12_4 :: k) env S) ∧
  (codeS I next stop k12_0 k env S = next (.code k12_1 :: .code k12_2 :: k) env S) := by
  repeat' apply And.intro
  all_goals kernel_rfl
theorem c12r (P : Program) (I : Inv) (next stop : Cont) (rest : List Nat) (k : List Item) (env : List V) (S : Mem) : (regS P I next stop o12_1 0 rest k env S = bindS next (op1 P (evalV I env) S (.box 38 (.tmp 0))) (.inRegion o12_1 rest :: k) (some 2) env) ∧
  (regS P I next stop o12_1 1 rest k env S = bindS next (op1 P (evalV I env) S (.box 38 (.tmp 1))) (.inRegion o12_1 rest :: k) (some 3) env) ∧
  (regS P I next stop o12_1 2 rest k env S = bindS next (op1 P (evalV I env) S (.assign (.const (.bool false)))) (.inRegion o12_1 rest :: k) (some 4) env) ∧
  (regS P I next stop o12_3 0 rest k env S = bindS next (op1 P (evalV I env) S (.fieldAddr 38 (.tmp 2) 0)) (.inRegion o12_3 rest :: k) (some 5) env) ∧
  (regS P I next stop o12_3 1 rest k env S = bindS next (op1 P (evalV I env) S (.load 3 (.tmp 5))) (.inRegion o12_3 rest :: k) (some 6) env) ∧
  (regS P I next stop o12_3 2 rest k env S = bindS next (op1 P (evalV I env) S (.fieldAddr 38 (.tmp 3) 0)) (.inRegion o12_3 rest :: k) (some 7) env) ∧
  (regS P I next stop o12_3 3 rest k env S = bindS next (op1 P (evalV I env) S (.load 3 (.tmp 7))) (.inRegion o12_3 rest :: k) (some 8) env) ∧
  (regS P I next stop o12_3 4 rest k env S = bindS next (op1 P (evalV I env) S (.binOp .eql 3 (.tmp 6) (.tmp 8) 3)) (.inRegion o12_3 rest :: k) (some 9) env) ∧
  (regS P I next stop o12_3 5 rest k env S = bindS next (op1 P (evalV I env) S (.move (.tmp 9))) (.inRegion o12_3 rest :: k) (some 10) env) ∧
  (regS P I next stop o12_3 6 rest k env S = guardS P I next stop (env.getD 10 .undef) true o12_3 rest p12_3_6 k env S) ∧
  (doOp P I next stop o12_3 rest p12_3_6 k env S = bindS next (op1 P (evalV I env) S (.fieldAddr 38 (.tmp 2) 1)) (.inRegion o12_3 rest :: k) (some 11) env) ∧
  (regS P I next stop o12_3 7 rest k env S = guardS P I next stop (env.getD 10 .undef) true o12_3 rest p12_3_7 k env S) ∧
  (doOp P I next stop o12_3 rest p12_3_7 k env S = bindS next (op1 P (evalV I env) S (.load 9 (.tmp 11))) (.inRegion o12_3 rest :: k) (some 12) env) ∧
  (regS P I next stop o12_3 8 rest k env S = guardS P I next stop (env.getD 10 .undef) true o12_3 rest p12_3_8 k env S) ∧
  (doOp P I next stop o12_3 rest p12_3_8 k env S = bindS next (op1 P (evalV I env) S (.fieldAddr 38 (.tmp 3) 1)) (.inRegion o12_3 rest :: k) (some 13) env) ∧
  (regS P I next stop o12_3 9 rest k env S = guardS P I next stop (env.getD 10 .undef) true o12_3 rest p12_3_9 k env S) ∧
  (doOp P I next stop o12_3 rest p12_3_9 k env S = bindS next (op1 P (evalV I env) S (.load 9 (.tmp 13))) (.inRegion o12_3 rest :: k) (some 14) env) ∧
  (regS P I next stop o12_3 10 rest k env S = guardS P I next stop (env.getD 10 .undef) true o12_3 rest p12_3_10 k env S) ∧
  (doOp P I next stop o12_3 rest p12_3_10 k env S = bindS next (op1 P (evalV I env) S (.binOp .eql 9 (.tmp 12) (.tmp 14) 9)) (.inRegion o12_3 rest :: k) (some 15) env) ∧
  (regS P I next stop o12_3 11 rest k env S = bindS next (op1 P (evalV I env) S (.pick (.tmp 10) (.tmp 15) (.const (.bool false)))) (.inRegion o12_3 rest :: k) (some 16) env) ∧
  (regS P I next stop o12_3 12 rest k env S = bindS next (op1 P (evalV I env) S (.move (.tmp 16))) (.inRegion o12_3 rest :: k) (some 17) env) ∧
  (regS P I next stop o12_3 13 rest k env S = guardS P I next stop (env.getD 17 .undef) true o12_3 rest p12_3_13 k env S) ∧
  (doOp P I next stop o12_3 rest p12_3_13 k env S = bindS next (op1 P (evalV I env) S (.fieldAddr 38 (.tmp 2) 2)) (.inRegion o12_3 rest :: k) (some 18) env) ∧
  (regS P I next stop o12_3 14 rest k env S = guardS P I next stop (env.getD 17 .undef) true o12_3 rest p12_3_14 k env S) ∧
  (doOp P I next stop o12_3 rest p12_3_14 k env S = bindS next (op1 P (evalV I env) S (.load 28 (.tmp 18))) (.inRegion o12_3 rest :: k) (some 19) env) ∧
  (regS P I next stop o12_3 15 rest k env S = guardS P I next stop (env.getD 17 .undef) true o12_3 rest p12_3_15 k env S) ∧
  (doOp P I next stop o12_3 rest p12_3_15 k env S = bindS next (op1 P (evalV I env) S (.fieldAddr 38 (.tmp 3) 2)) (.inRegion o12_3 rest :: k) (some 20) env) ∧
  (regS P I next stop o12_3 16 rest k env S = guardS P I next stop (env.getD 17 .undef) true o12_3 rest p12_3_16 k env S) ∧
  (doOp P I next stop o12_3 rest p12_3_16 k env S = bindS next (op1 P (evalV I env) S (.load 28 (.tmp 20))) (.inRegion o12_3 rest :: k) (some 21) env) ∧
  (regS P I next stop o12_3 17 rest k env S = guardS P I next stop (env.getD 17 .undef) true o12_3 rest p12_3_17 k env S) ∧
  (doOp P I next stop o12_3 rest p12_3_17 k env S = bindS next (op1 P (evalV I env) S (.binOp .eql 28 (.tmp 19) (.tmp 21) 28)) (.inRegion o12_3 rest :: k) (some 22) env) ∧
  (regS P I next stop o12_3 18 rest k env S = bindS next (op1 P (evalV I env) S (.pick (.tmp 17) (.tmp 22) (.const (.bool false)))) (.inRegion o12_3 rest :: k) (some 23) env) ∧
  (regS P I next stop o12_3 19 rest k env S = bindS next (op1 P (evalV I env) S (.move (.tmp 23))) (.inRegion o12_3 rest :: k) (some 24) env) ∧
  (regS P I next stop o12_3 20 rest k env S = guardS P I next stop (env.getD 24 .undef) true o12_3 rest p12_3_20 k env S) ∧
  (doOp P I next stop o12_3 rest p12_3_20 k env S = bindS next (op1 P (evalV I env) S (.fieldAddr 38 (.tmp 2) 3)) (.inRegion o12_3 rest :: k) (some 25) env) ∧
  (regS P I next stop o12_3 21 rest k env S = guardS P I next stop (env.getD 24 .undef) true o12_3 rest p12_3_21 k env S) ∧
  (doOp P I next stop o12_3 rest p12_3_21 k env S = bindS next (op1 P (evalV I env) S (.load 34 (.tmp 25))) (.inRegion o12_3 rest :: k) (some 26) env) ∧
  (regS P I next stop o12_3 22 rest k env S = guardS P I next stop (env.getD 24 .undef) true o12_3 rest p12_3_22 k env S) ∧
  (doOp P I next stop o12_3 rest p12_3_22 k env S = bindS next (op1 P (evalV I env) S (.fieldAddr 38 (.tmp 3) 3)) (.inRegion o12_3 rest :: k) (some 27) env) ∧
  (regS P I next stop o12_3 23 rest k env S = guardS P I next stop (env.getD 24 .undef) true o12_3 rest p12_3_23 k env S) ∧
  (doOp P I next stop o12_3 rest p12_3_23 k env S = bindS next (op1 P (evalV I env) S (.load 34 (.tmp 27))) (.inRegion o12_3 rest :: k) (some 28) env) ∧
  (regS P I next stop o12_3 24 rest k env S = guardS P I next stop (env.getD 24 .undef) true o12_3 rest p12_3_24 k env S) ∧
  (doOp P I next stop o12_3 rest p12_3_24 k env S = callS P I stop (evalV I env (.func 19)) [evalV I env (.tmp 26), evalV I env (.tmp 28)] (.inRegion o12_3 rest :: k) (some 29) env S) ∧
  (regS P I next stop o12_3 25 rest k env S = bindS next (op1 P (evalV I env) S (.pick (.tmp 24) (.tmp 29) (.const (.bool false)))) (.inRegion o12_3 rest :: k) (some 30) env) ∧
  (regS P I next stop o12_3 26 rest k env S = bindS next (op1 P (evalV I env) S (.move (.tmp 30))) (.inRegion o12_3 rest :: k) (some 31) env) ∧
  (regS P I next stop o12_3 27 rest k env S = guardS P I next stop (env.getD 31 .undef) true o12_3 rest p12_3_27 k env S) ∧
  (doOp P I next stop o12_3 rest p12_3_27 k env S = bindS next (op1 P (evalV I env) S (.fieldAddr 38 (.tmp 2) 4)) (.inRegion o12_3 rest :: k) (some 32) env) ∧
  (regS P I next stop o12_3 28 rest k env S = guardS P I next stop (env.getD 31 .undef) true o12_3 rest p12_3_28 k env S) ∧
  (doOp P I next stop o12_3 rest p12_3_28 k env S = bindS next (op1 P (evalV I env) S (.load 35 (.tmp 32))) (.inRegion o12_3 rest :: k) (some 33) env) ∧
  (regS P I next stop o12_3 29 rest k env S = guardS P I next stop (env.getD 31 .undef) true o12_3 rest p12_3_29 k env S) ∧
  (doOp P I next stop o12_3 rest p12_3_29 k env S = bindS next (op1 P (evalV I env) S (.fieldAddr 38 (.tmp 3) 4)) (.inRegion o12_3 rest :: k) (some 34) env) ∧
  (regS P I next stop o12_3 30 rest k env S = guardS P I next stop (env.getD 31 .undef) true o12_3 rest p12_3_30 k env S) ∧
  (doOp P I next stop o12_3 rest p12_3_30 k env S = bindS next (op1 P (evalV I env) S (.load 35 (.tmp 34))) (.inRegion o12_3 rest :: k) (some 35) env) ∧
  (regS P I next stop o12_3 31 rest k env S = guardS P I next stop (env.getD 31 .undef) true o12_3 rest p12_3_31 k env S) ∧
  (doOp P I next stop o12_3 rest p12_3_31 k env S = callS P I stop (evalV I env (.func 30)) [evalV I env (.tmp 33), evalV I env (.tmp 35)] (.inRegion o12_3 rest :: k) (some 36) env S) ∧
  (regS P I next stop o12_3 32 rest k env S = bindS next (op1 P (evalV I env) S (.pick (.tmp 31) (.tmp 36) (.const (.bool false)))) (.inRegion o12_3 rest :: k) (some 37) env) ∧
  (regS P I next stop o12_3 33 rest k env S = bindS next (op1 P (evalV I env) S (.move (.tmp 37))) (.inRegion o12_3 rest :: k) (some 38) env) ∧
  (regS P I next stop o12_3 34 rest k env S = guardS P I next stop (env.getD 38 .undef) true o12_3 rest p12_3_34 k env S) ∧
  (doOp P I next stop o12_3 rest p12_3_34 k env S = bindS next (op1 P (evalV I env) S (.fieldAddr 38 (.tmp 2) 5)) (.inRegion o12_3 rest :: k) (some 39) env) ∧
  (regS P I next stop o12_3 35 rest k env S = guardS P I next stop (env.getD 38 .undef) true o12_3 rest p12_3_35 k env S) ∧
  (doOp P I next stop o12_3 rest p12_3_35 k env S = bindS next (op1 P (evalV I env) S (.load 36 (.tmp 39))) (.inRegion o12_3 rest :: k) (some 40) env) ∧
  (regS P I next stop o12_3 36 rest k env S = guardS P I next stop (env.getD 38 .undef) true o12_3 rest p12_3_36 k env S) ∧
  (doOp P I next stop o12_3 rest p12_3_36 k env S = bindS next (op1 P (evalV I env) S (.fieldAddr 38 (.tmp 3) 5)) (.inRegion o12_3 rest :: k) (some 41) env) ∧
  (regS P I next stop o12_3 37 rest k env S = guardS P I next stop (env.getD 38 .undef) true o12_3 rest p12_3_37 k env S) ∧
  (doOp P I next stop o12_3 rest p12_3_37 k env S = bindS next (op1 P (evalV I env) S (.load 36 (.tmp 41))) (.inRegion o12_3 rest :: k) (some 42) env) ∧
  (regS P I next stop o12_3 38 rest k env S = guardS P I next stop (env.getD 38 .undef) true o12_3 rest p12_3_38 k env S) ∧
  (doOp P I next stop o12_3 rest p12_3_38 k env S = callS P I stop (evalV I env (.func 31)) [evalV I env (.tmp 40), evalV I env (.tmp 42), evalV I env (.func 12)] (.inRegion o12_3 rest :: k) (some 43) env S) ∧
  (regS P I next stop o12_3 39 rest k env S = bindS next (op1 P (evalV I env) S (.pick (.tmp 38) (.tmp 43) (.const (.bool false)))) (.inRegion o12_3 rest :: k) (some 44) env) ∧
  (regS P I next stop o12_3 40 rest k env S = bindS next (op1 P (evalV I env) S (.assign (.tmp 44))) (.inRegion o12_3 rest :: k) (some 4) env) := by
  repeat' apply And.intro
  all_goals kernel_rfl
theorem c12t  : (p12_3_6.dst = (some 11)) ∧
  (p12_3_7.dst = (some 12)) ∧
  (p12_3_8.dst = (some 13)) ∧
  (p12_3_9.dst = (some 14)) ∧
  (p12_3_10.dst = (some 15)) ∧
  (p12_3_13.dst = (some 18)) ∧
  (p12_3_14.dst = (some 19)) ∧
  (p12_3_15.dst = (some 20)) ∧
  (p12_3_16.dst = (some 21)) ∧
  (p12_3_17.dst = (some 22)) ∧
  (p12_3_20.dst = (some 25)) ∧
  (p12_3_21.dst = (some 26)) ∧
  (p12_3_22.dst = (some 27)) ∧
  (p12_3_23.dst = (some 28)) ∧
  (p12_3_24.dst = (some 29)) ∧
  (p12_3_27.dst = (some 32)) ∧
  (p12_3_28.dst = (some 33)) ∧
  (p12_3_29.dst = (some 34)) ∧
  (p12_3_30.dst = (some 35)) ∧
  (p12_3_31.dst = (some 36)) ∧
  (p12_3_34.dst = (some 39)) ∧
  (p12_3_35.dst = (some 40)) ∧
  (p12_3_36.dst = (some 41)) ∧
  (p12_3_37.dst = (some 42)) ∧
  (p12_3_38.dst = (some 43)) := by
  repeat' apply And.intro
  all_goals kernel_rfl
set_option linter.defProp false in
/-- All of these. -/
def c12 := And.intro @c12s ( And.intro @c12r (@c12t))
noncomputable def k43_0 : Code := bodyOf Tryd.f43
noncomputable def k43_1 : Code := lft k43_0
noncomputable def o43_1 : Array Oper := opsOf k43_1
noncomputable def k43_2 : Code := rgt k43_0
noncomputable def k43_3 : Code := lft k43_2
noncomputable def o43_3 : Array Oper := opsOf k43_3
noncomputable def p43_3_6 : Oper := opAt o43_3 6
noncomputable def p43_3_7 : Oper := opAt o43_3 7
noncomputable def p43_3_8 : Oper := opAt o43_3 8
noncomputable def p43_3_9 : Oper := opAt o43_3 9
noncomputable def p43_3_10 : Oper := opAt o43_3 10
noncomputable def k43_4 : Code := rgt k43_2
theorem c43s (I : Inv) (next stop : Cont) (k : List Item) (env : List V) (S : Mem) : (codeS I next stop k43_1 k env S = next (.inRegion o43_1 [0, 1, 2] :: k) env S) ∧
  (codeS I next stop k43_3 k env S = next (.inRegion o43_3 [0, 1, 2, 3, 4, 5, 6, 7, 8, 9, 10, 11, 12] :: k) env S) ∧
  (codeS I next stop k43_4 k env S = stop (.code .ret :: k) env S) ∧
  (codeS I next stop k43_2 k env S = next (.code k43_3 :: .code k43_4 :: k) env S) ∧
  (codeS I next stop k43_0 k env S = next (.code k43_1 :: .code k43_2 :: k) env S) := by
  repeat' apply And.intro
  all_goals kernel_rfl
theorem c43r (P : Program) (I : Inv) (next stop : Cont) (rest : List Nat) (k : List Item) (env : List V) (S : Mem) : (regS P I next stop o43_1 0 rest k env S = bindS next (op1 P (evalV I env) S (.box 94 (.tmp 0))) (.inRegion o43_1 rest :: k) (some 2) env) ∧
  (regS P I next stop o43_1 1 rest k env S = bindS next (op1 P (evalV I env) S (.box 94 (.tmp 1))) (.inRegion o43_1 rest :: k) (some 3) env) ∧
  (regS P I next stop o43_1 2 rest k env S = bindS next (op1 P (evalV I env) S (.assign (.const (.bool false)))) (.inRegion o43_1 rest :: k) (some 4) env) ∧
  (regS P I next stop o43_3 0 rest k env S = bindS next (op1 P (evalV I env) S (.fieldAddr 94 (.tmp 2) 0)) (.inRegion o43_3 rest :: k) (some 5) env) ∧
  (regS P I next stop o43_3 1 rest k env S = bindS next (op1 P (evalV I env) S (.load 28 (.tmp 5))) (.inRegion o43_3 rest :: k) (some 6) env) ∧
  (regS P I next stop o43_3 2 rest k env S = bindS next (op1 P (evalV I env) S (.fieldAddr 94 (.tmp 3) 0)) (.inRegion o43_3 rest :: k) (some 7) env) ∧
  (regS P I next stop o43_3 3 rest k env S = bindS next (op1 P (evalV I env) S (.load 28 (.tmp 7))) (.inRegion o43_3 rest :: k) (some 8) env) ∧
  (regS P I next stop o43_3 4 rest k env S = bindS next (op1 P (evalV I env) S (.binOp .eql 28 (.tmp 6) (.tmp 8) 28)) (.inRegion o43_3 rest :: k) (some 9) env) ∧
  (regS P I next stop o43_3 5 rest k env S = bindS next (op1 P (evalV I env) S (.move (.tmp 9))) (.inRegion o43_3 rest :: k) (some 10) env) ∧
  (regS P I next stop o43_3 6 rest k env S = guardS P I next stop (env.getD 10 .undef) true o43_3 rest p43_3_6 k env S) ∧
  (doOp P I next stop o43_3 rest p43_3_6 k env S = bindS next (op1 P (evalV I env) S (.fieldAddr 94 (.tmp 2) 1)) (.inRegion o43_3 rest :: k) (some 11) env) ∧
  (regS P I next stop o43_3 7 rest k env S = guardS P I next stop (env.getD 10 .undef) true o43_3 rest p43_3_7 k env S) ∧
  (doOp P I next stop o43_3 rest p43_3_7 k env S = bindS next (op1 P (evalV I env) S (.load 54 (.tmp 11))) (.inRegion o43_3 rest :: k) (some 12) env) ∧
  (regS P I next stop o43_3 8 rest k env S = guardS P I next stop (env.getD 10 .undef) true o43_3 rest p43_3_8 k env S) ∧
  (doOp P I next stop o43_3 rest p43_3_8 k env S = bindS next (op1 P (evalV I env) S (.fieldAddr 94 (.tmp 3) 1)) (.inRegion o43_3 rest :: k) (some 13) env) ∧
  (regS P I next stop o43_3 9 rest k env S = guardS P I next stop (env.getD 10 .undef) true o43_3 rest p43_3_9 k env S) ∧
  (doOp P I next stop o43_3 rest p43_3_9 k env S = bindS next (op1 P (evalV I env) S (.load 54 (.tmp 13))) (.inRegion o43_3 rest :: k) (some 14) env) ∧
  (regS P I next stop o43_3 10 rest k env S = guardS P I next stop (env.getD 10 .undef) true o43_3 rest p43_3_10 k env S) ∧
  (doOp P I next stop o43_3 rest p43_3_10 k env S = callS P I stop (evalV I env (.func 24)) [evalV I env (.tmp 12), evalV I env (.tmp 14), evalV I env (.func 25)] (.inRegion o43_3 rest :: k) (some 15) env S) ∧
  (regS P I next stop o43_3 11 rest k env S = bindS next (op1 P (evalV I env) S (.pick (.tmp 10) (.tmp 15) (.const (.bool false)))) (.inRegion o43_3 rest :: k) (some 16) env) ∧
  (regS P I next stop o43_3 12 rest k env S = bindS next (op1 P (evalV I env) S (.assign (.tmp 16))) (.inRegion o43_3 rest :: k) (some 4) env) := by
  repeat' apply And.intro
  all_goals kernel_rfl
theorem c43t  : (p43_3_6.dst = (some 11)) ∧
  (p43_3_7.dst = (some 12)) ∧
  (p43_3_8.dst = (some 13)) ∧
  (p43_3_9.dst = (some 14)) ∧
  (p43_3_10.dst = (some 15)) := by
  repeat' apply And.intro
  all_goals kernel_rfl
set_option linter.defProp false in
/-- All of these. -/
def c43 := And.intro @c43s ( And.intro @c43r (@c43t))
noncomputable def k25_0 : Code := bodyOf Tryd.f25
noncomputable def k25_1 : Code := lft k25_0
noncomputable def o25_1 : Array Oper := opsOf k25_1
noncomputable def k25_2 : Code := rgt k25_0
noncomputable def k25_3 : Code := lft k25_2
noncomputable def o25_3 : Array Oper := opsOf k25_3
noncomputable def k25_4 : Code := rgt k25_2
noncomputable def k25_5 : Code := lft k25_4
noncomputable def o25_5 : Array Oper := opsOf k25_5
noncomputable def p25_5_6 : Oper := opAt o25_5 6
noncomputable def p25_5_7 : Oper := opAt o25_5 7
noncomputable def p25_5_8 : Oper := opAt o25_5 8
noncomputable def p25_5_9 : Oper := opAt o25_5 9
noncomputable def p25_5_10 : Oper := opAt o25_5 10
noncomputable def p25_5_13 : Oper := opAt o25_5 13
noncomputable def p25_5_14 : Oper := opAt o25_5 14
noncomputable def p25_5_15 : Oper := opAt o25_5 15
noncomputable def p25_5_16 : Oper := opAt o25_5 16
noncomputable def p25_5_17 : Oper := opAt o25_5 17
noncomputable def p25_5_20 : Oper := opAt o25_5 20
noncomputable def p25_5_21 : Oper := opAt o25_5 21
noncomputable def p25_5_22 : Oper := opAt o25_5 22
noncomputable def p25_5_23 : Oper := opAt o25_5 23
noncomputable def p25_5_24 : Oper := opAt o25_5 24
noncomputable def p25_5_27 : Oper := opAt o25_5 27
noncomputable def p25_5_28 : Oper := opAt o25_5 28
noncomputable def p25_5_29 : Oper := opAt o25_5 29
noncomputable def p25_5_30 : Oper := opAt o25_5 30
noncomputable def p25_5_31 : Oper := opAt o25_5 31
noncomputable def p25_5_34 : Oper := opAt o25_5 34
noncomputable def p25_5_35 : Oper := opAt o25_5 35
noncomputable def p25_5_36 : Oper := opAt o25_5 36
noncomputable def p25_5_37 : Oper := opAt o25_5 37
noncomputable def p25_5_38 : Oper := opAt o25_5 38
noncomputable def p25_5_41 : Oper := opAt o25_5 41
noncomputable def p25_5_42 : Oper := opAt o25_5 42
noncomputable def p25_5_43 : Oper := opAt o25_5 43
noncomputable def p25_5_44 : Oper := opAt o25_5 44
noncomputable def p25_5_45 : Oper := opAt o25_5 45
noncomputable def p25_5_48 : Oper := opAt o25_5 48
noncomputable def p25_5_49 : Oper := opAt o25_5 49
noncomputable def p25_5_50 : Oper := opAt o25_5 50
noncomputable def p25_5_51 : Oper := opAt o25_5 51
noncomputable def p25_5_52 : Oper := opAt o25_5 52
noncomputable def p25_5_53 : Oper := opAt o25_5 53
noncomputable def k25_6 : Code := rgt k25_4
theorem c25s (I : Inv) (next stop : Cont) (k : List Item) (env : List V) (S : Mem) : (codeS I next stop k25_1 k env S = next (.inRegion o25_1 [0, 1, 2] :: k) env S) ∧
  (codeS I next stop k25_3 k env S = next (.inRegion o25_3 [0] :: k) env S) ∧
  (codeS I next stop k25_5 k env S = next (.inRegion o25_5 [0, 1, 2, 3, 4, 5, 6, 7, 8, 9, 10, 11, 12, 13, 14, 15, 16, 17, 18, 19, 20, 21, 22, 23, 24, 25, 26, 27, 28, 29, 30, 31, 32, 33, 34, 35, 36, 37, 38, 39, 40, 41, 42, 43, 44, 45, 46, 47, 48, 49, 50, 51, 52, 53, 54, 55] :: k) env S) ∧
  (codeS I next stop k25_6 k env S = stop (.code .ret :: k) env S) ∧
  (codeS I next stop k25_4 k env S = next (.code k25_5 :: .code k25_6 :: k) env S) ∧
  (codeS I next stop k25_2 k env S = next (.code k25_3 :: .code k25_4 :: k) env S) ∧
  (codeS I next stop k25_0 k env S = next (.code k25_1 :: .code k25_2 :: k) env S) := by
  repeat' apply And.intro
  all_goals kernel_rfl
theorem c25r (P : Program) (I : Inv) (next stop : Cont) (rest : List Nat) (k : List Item) (env : List V) (S : Mem) : (regS P I next stop o25_1 0 rest k env S = bindS next (op1 P (evalV I env) S (.box 69 (.tmp 0))) (.inRegion o25_1 rest :: k) (some 2) env) ∧
  (regS P I next stop o25_1 1 rest k env S = bindS next (op1 P (evalV I env) S (.box 69 (.tmp 1))) (.inRegion o25_1 rest :: k) (some 3) env) ∧
  (regS P I next stop o25_1 2 rest k env S = bindS next (op1 P (evalV I env) S (.assign (.const (.bool false)))) (.inRegion o25_1 rest :: k) (some 4) env) ∧
  (regS P I next stop o25_3 0 rest k env S = bindS next (op1 P (evalV I env) S (.assign (.func 43))) (.inRegion o25_3 rest :: k) (some 5) env) ∧
  (regS P I next stop o25_5 0 rest k env S = bindS next (op1 P (evalV I env) S (.fieldAddr 69 (.tmp 2) 0)) (.inRegion o25_5 rest :: k) (some 6) env) ∧
  (regS P I next stop o25_5 1 rest k env S = bindS next (op1 P (evalV I env) S (.load 3 (.tmp 6))) (.inRegion o25_5 rest :: k) (some 7) env) ∧
  (regS P I next stop o25_5 2 rest k env S = bindS next (op1 P (evalV I env) S (.fieldAddr 69 (.tmp 3) 0)) (.inRegion o25_5 rest :: k) (some 8) env) ∧
  (regS P I next stop o25_5 3 rest k env S = bindS next (op1 P (evalV I env) S (.load 3 (.tmp 8))) (.inRegion o25_5 rest :: k) (some 9) env) ∧
  (regS P I next stop o25_5 4 rest k env S = bindS next (op1 P (evalV I env) S (.binOp .eql 3 (.tmp 7) (.tmp 9) 3)) (.inRegion o25_5 rest :: k) (some 10) env) ∧
  (regS P I next stop o25_5 5 rest k env S = bindS next (op1 P (evalV I env) S (.move (.tmp 10))) (.inRegion o25_5 rest :: k) (some 11) env) ∧
  (regS P I next stop o25_5 6 rest k env S = guardS P I next stop (env.getD 11 .undef) true o25_5 rest p25_5_6 k env S) ∧
  (doOp P I next stop o25_5 rest p25_5_6 k env S = bindS next (op1 P (evalV I env) S (.fieldAddr 69 (.tmp 2) 1)) (.inRegion o25_5 rest :: k) (some 12) env) ∧
  (regS P I next stop o25_5 7 rest k env S = guardS P I next stop (env.getD 11 .undef) true o25_5 rest p25_5_7 k env S) ∧
  (doOp P I next stop o25_5 rest p25_5_7 k env S = bindS next (op1 P (evalV I env) S (.load 35 (.tmp 12))) (.inRegion o25_5 rest :: k) (some 13) env) ∧
  (regS P I next stop o25_5 8 rest k env S = guardS P I next stop (env.getD 11 .undef) true o25_5 rest p25_5_8 k env S) ∧
  (doOp P I next stop o25_5 rest p25_5_8 k env S = bindS next (op1 P (evalV I env) S (.fieldAddr 69 (.tmp 3) 1)) (.inRegion o25_5 rest :: k) (some 14) env) ∧
  (regS P I next stop o25_5 9 rest k env S = guardS P I next stop (env.getD 11 .undef) true o25_5 rest p25_5_9 k env S) ∧
  (doOp P I next stop o25_5 rest p25_5_9 k env S = bindS next (op1 P (evalV I env) S (.load 35 (.tmp 14))) (.inRegion o25_5 rest :: k) (some 15) env) ∧
  (regS P I next stop o25_5 10 rest k env S = guardS P I next stop (env.getD 11 .undef) true o25_5 rest p25_5_10 k env S) ∧
  (doOp P I next stop o25_5 rest p25_5_10 k env S = callS P I stop (evalV I env (.func 30)) [evalV I env (.tmp 13), evalV I env (.tmp 15)] (.inRegion o25_5 rest :: k) (some 16) env S) ∧
  (regS P I next stop o25_5 11 rest k env S = bindS next (op1 P (evalV I env) S (.pick (.tmp 11) (.tmp 16) (.const (.bool false)))) (.inRegion o25_5 rest :: k) (some 17) env) ∧
  (regS P I next stop o25_5 12 rest k env S = bindS next (op1 P (evalV I env) S (.move (.tmp 17))) (.inRegion o25_5 rest :: k) (some 18) env) ∧
  (regS P I next stop o25_5 13 rest k env S = guardS P I next stop (env.getD 18 .undef) true o25_5 rest p25_5_13 k env S) ∧
  (doOp P I next stop o25_5 rest p25_5_13 k env S = bindS next (op1 P (evalV I env) S (.fieldAddr 69 (.tmp 2) 2)) (.inRegion o25_5 rest :: k) (some 19) env) ∧
  (regS P I next stop o25_5 14 rest k env S = guardS P I next stop (env.getD 18 .undef) true o25_5 rest p25_5_14 k env S) ∧
  (doOp P I next stop o25_5 rest p25_5_14 k env S = bindS next (op1 P (evalV I env) S (.load 34 (.tmp 19))) (.inRegion o25_5 rest :: k) (some 20) env) ∧
  (regS P I next stop o25_5 15 rest k env S = guardS P I next stop (env.getD 18 .undef) true o25_5 rest p25_5_15 k env S) ∧
  (doOp P I next stop o25_5 rest p25_5_15 k env S = bindS next (op1 P (evalV I env) S (.fieldAddr 69 (.tmp 3) 2)) (.inRegion o25_5 rest :: k) (some 21) env) ∧
  (regS P I next stop o25_5 16 rest k env S = guardS P I next stop (env.getD 18 .undef) true o25_5 rest p25_5_16 k env S) ∧
  (doOp P I next stop o25_5 rest p25_5_16 k env S = bindS next (op1 P (evalV I env) S (.load 34 (.tmp 21))) (.inRegion o25_5 rest :: k) (some 22) env) ∧
  (regS P I next stop o25_5 17 rest k env S = guardS P I next stop (env.getD 18 .undef) true o25_5 rest p25_5_17 k env S) ∧
  (doOp P I next stop o25_5 rest p25_5_17 k env S = callS P I stop (evalV I env (.func 19)) [evalV I env (.tmp 20), evalV I env (.tmp 22)] (.inRegion o25_5 rest :: k) (some 23) env S) ∧
  (regS P I next stop o25_5 18 rest k env S = bindS next (op1 P (evalV I env) S (.pick (.tmp 18) (.tmp 23) (.const (.bool false)))) (.inRegion o25_5 rest :: k) (some 24) env) ∧
  (regS P I next stop o25_5 19 rest k env S = bindS next (op1 P (evalV I env) S (.move (.tmp 24))) (.inRegion o25_5 rest :: k) (some 25) env) ∧
  (regS P I next stop o25_5 20 rest k env S = guardS P I next stop (env.getD 25 .undef) true o25_5 rest p25_5_20 k env S) ∧
  (doOp P I next stop o25_5 rest p25_5_20 k env S = bindS next (op1 P (evalV I env) S (.fieldAddr 69 (.tmp 2) 3)) (.inRegion o25_5 rest :: k) (some 26) env) ∧
  (regS P I next stop o25_5 21 rest k env S = guardS P I next stop (env.getD 25 .undef) true o25_5 rest p25_5_21 k env S) ∧
  (doOp P I next stop o25_5 rest p25_5_21 k env S = bindS next (op1 P (evalV I env) S (.load 36 (.tmp 26))) (.inRegion o25_5 rest :: k) (some 27) env) ∧
  (regS P I next stop o25_5 22 rest k env S = guardS P I next stop (env.getD 25 .undef) true o25_5 rest p25_5_22 k env S) ∧
  (doOp P I next stop o25_5 rest p25_5_22 k env S = bindS next (op1 P (evalV I env) S (.fieldAddr 69 (.tmp 3) 3)) (.inRegion o25_5 rest :: k) (some 28) env) ∧
  (regS P I next stop o25_5 23 rest k env S = guardS P I next stop (env.getD 25 .undef) true o25_5 rest p25_5_23 k env S) ∧
  (doOp P I next stop o25_5 rest p25_5_23 k env S = bindS next (op1 P (evalV I env) S (.load 36 (.tmp 28))) (.inRegion o25_5 rest :: k) (some 29) env) ∧
  (regS P I next stop o25_5 24 rest k env S = guardS P I next stop (env.getD 25 .undef) true o25_5 rest p25_5_24 k env S) ∧
  (doOp P I next stop o25_5 rest p25_5_24 k env S = callS P I stop (evalV I env (.func 31)) [evalV I env (.tmp 27), evalV I env (.tmp 29), evalV I env (.func 12)] (.inRegion o25_5 rest :: k) (some 30) env S) ∧
  (regS P I next stop o25_5 25 rest k env S = bindS next (op1 P (evalV I env) S (.pick (.tmp 25) (.tmp 30) (.const (.bool false)))) (.inRegion o25_5 rest :: k) (some 31) env) ∧
  (regS P I next stop o25_5 26 rest k env S = bindS next (op1 P (evalV I env) S (.move (.tmp 31))) (.inRegion o25_5 rest :: k) (some 32) env) ∧
  (regS P I next stop o25_5 27 rest k env S = guardS P I next stop (env.getD 32 .undef) true o25_5 rest p25_5_27 k env S) ∧
  (doOp P I next stop o25_5 rest p25_5_27 k env S = bindS next (op1 P (evalV I env) S (.fieldAddr 69 (.tmp 2) 4)) (.inRegion o25_5 rest :: k) (some 33) env) ∧
  (regS P I next stop o25_5 28 rest k env S = guardS P I next stop (env.getD 32 .undef) true o25_5 rest p25_5_28 k env S) ∧
  (doOp P I next stop o25_5 rest p25_5_28 k env S = bindS next (op1 P (evalV I env) S (.load 36 (.tmp 33))) (.inRegion o25_5 rest :: k) (some 34) env) ∧
  (regS P I next stop o25_5 29 rest k env S = guardS P I next stop (env.getD 32 .undef) true o25_5 rest p25_5_29 k env S) ∧
  (doOp P I next stop o25_5 rest p25_5_29 k env S = bindS next (op1 P (evalV I env) S (.fieldAddr 69 (.tmp 3) 4)) (.inRegion o25_5 rest :: k) (some 35) env) ∧
  (regS P I next stop o25_5 30 rest k env S = guardS P I next stop (env.getD 32 .undef) true o25_5 rest p25_5_30 k env S) ∧
  (doOp P I next stop o25_5 rest p25_5_30 k env S = bindS next (op1 P (evalV I env) S (.load 36 (.tmp 35))) (.inRegion o25_5 rest :: k) (some 36) env) ∧
  (regS P I next stop o25_5 31 rest k env S = guardS P I next stop (env.getD 32 .undef) true o25_5 rest p25_5_31 k env S) ∧
  (doOp P I next stop o25_5 rest p25_5_31 k env S = callS P I stop (evalV I env (.func 31)) [evalV I env (.tmp 34), evalV I env (.tmp 36), evalV I env (.func 12)] (.inRegion o25_5 rest :: k) (some 37) env S) ∧
  (regS P I next stop o25_5 32 rest k env S = bindS next (op1 P (evalV I env) S (.pick (.tmp 32) (.tmp 37) (.const (.bool false)))) (.inRegion o25_5 rest :: k) (some 38) env) ∧
  (regS P I next stop o25_5 33 rest k env S = bindS next (op1 P (evalV I env) S (.move (.tmp 38))) (.inRegion o25_5 rest :: k) (some 39) env) ∧
  (regS P I next stop o25_5 34 rest k env S = guardS P I next stop (env.getD 39 .undef) true o25_5 rest p25_5_34 k env S) ∧
  (doOp P I next stop o25_5 rest p25_5_34 k env S = bindS next (op1 P (evalV I env) S (.fieldAddr 69 (.tmp 2) 5)) (.inRegion o25_5 rest :: k) (some 40) env) ∧
  (regS P I next stop o25_5 35 rest k env S = guardS P I next stop (env.getD 39 .undef) true o25_5 rest p25_5_35 k env S) ∧
  (doOp P I next stop o25_5 rest p25_5_35 k env S = bindS next (op1 P (evalV I env) S (.load 54 (.tmp 40))) (.inRegion o25_5 rest :: k) (some 41) env) ∧
  (regS P I next stop o25_5 36 rest k env S = guardS P I next stop (env.getD 39 .undef) true o25_5 rest p25_5_36 k env S) ∧
  (doOp P I next stop o25_5 rest p25_5_36 k env S = bindS next (op1 P (evalV I env) S (.fieldAddr 69 (.tmp 3) 5)) (.inRegion o25_5 rest :: k) (some 42) env) ∧
  (regS P I next stop o25_5 37 rest k env S = guardS P I next stop (env.getD 39 .undef) true o25_5 rest p25_5_37 k env S) ∧
  (doOp P I next stop o25_5 rest p25_5_37 k env S = bindS next (op1 P (evalV I env) S (.load 54 (.tmp 42))) (.inRegion o25_5 rest :: k) (some 43) env) ∧
  (regS P I next stop o25_5 38 rest k env S = guardS P I next stop (env.getD 39 .undef) true o25_5 rest p25_5_38 k env S) ∧
  (doOp P I next stop o25_5 rest p25_5_38 k env S = callS P I stop (evalV I env (.func 24)) [evalV I env (.tmp 41), evalV I env (.tmp 43), evalV I env (.func 25)] (.inRegion o25_5 rest :: k) (some 44) env S) ∧
  (regS P I next stop o25_5 39 rest k env S = bindS next (op1 P (evalV I env) S (.pick (.tmp 39) (.tmp 44) (.const (.bool false)))) (.inRegion o25_5 rest :: k) (some 45) env) ∧
  (regS P I next stop o25_5 40 rest k env S = bindS next (op1 P (evalV I env) S (.move (.tmp 45))) (.inRegion o25_5 rest :: k) (some 46) env) ∧
  (regS P I next stop o25_5 41 rest k env S = guardS P I next stop (env.getD 46 .undef) true o25_5 rest p25_5_41 k env S) ∧
  (doOp P I next stop o25_5 rest p25_5_41 k env S = bindS next (op1 P (evalV I env) S (.fieldAddr 69 (.tmp 2) 6)) (.inRegion o25_5 rest :: k) (some 47) env) ∧
  (regS P I next stop o25_5 42 rest k env S = guardS P I next stop (env.getD 46 .undef) true o25_5 rest p25_5_42 k env S) ∧
  (doOp P I next stop o25_5 rest p25_5_42 k env S = bindS next (op1 P (evalV I env) S (.load 54 (.tmp 47))) (.inRegion o25_5 rest :: k) (some 48) env) ∧
  (regS P I next stop o25_5 43 rest k env S = guardS P I next stop (env.getD 46 .undef) true o25_5 rest p25_5_43 k env S) ∧
  (doOp P I next stop o25_5 rest p25_5_43 k env S = bindS next (op1 P (evalV I env) S (.fieldAddr 69 (.tmp 3) 6)) (.inRegion o25_5 rest :: k) (some 49) env) ∧
  (regS P I next stop o25_5 44 rest k env S = guardS P I next stop (env.getD 46 .undef) true o25_5 rest p25_5_44 k env S) ∧
  (doOp P I next stop o25_5 rest p25_5_44 k env S = bindS next (op1 P (evalV I env) S (.load 54 (.tmp 49))) (.inRegion o25_5 rest :: k) (some 50) env) ∧
  (regS P I next stop o25_5 45 rest k env S = guardS P I next stop (env.getD 46 .undef) true o25_5 rest p25_5_45 k env S) ∧
  (doOp P I next stop o25_5 rest p25_5_45 k env S = callS P I stop (evalV I env (.func 24)) [evalV I env (.tmp 48), evalV I env (.tmp 50), evalV I env (.func 25)] (.inRegion o25_5 rest :: k) (some 51) env S) ∧
  (regS P I next stop o25_5 46 rest k env S = bindS next (op1 P (evalV I env) S (.pick (.tmp 46) (.tmp 51) (.const (.bool false)))) (.inRegion o25_5 rest :: k) (some 52) env) ∧
  (regS P I next stop o25_5 47 rest k env S = bindS next (op1 P (evalV I env) S (.move (.tmp 52))) (.inRegion o25_5 rest :: k) (some 53) env) ∧
  (regS P I next stop o25_5 48 rest k env S = guardS P I next stop (env.getD 53 .undef) true o25_5 rest p25_5_48 k env S) ∧
  (doOp P I next stop o25_5 rest p25_5_48 k env S = bindS next (op1 P (evalV I env) S (.fieldAddr 69 (.tmp 2) 7)) (.inRegion o25_5 rest :: k) (some 54) env) ∧
  (regS P I next stop o25_5 49 rest k env S = guardS P I next stop (env.getD 53 .undef) true o25_5 rest p25_5_49 k env S) ∧
  (doOp P I next stop o25_5 rest p25_5_49 k env S = bindS next (op1 P (evalV I env) S (.load 67 (.tmp 54))) (.inRegion o25_5 rest :: k) (some 55) env) ∧
  (regS P I next stop o25_5 50 rest k env S = guardS P I next stop (env.getD 53 .undef) true o25_5 rest p25_5_50 k env S) ∧
  (doOp P I next stop o25_5 rest p25_5_50 k env S = bindS next (op1 P (evalV I env) S (.fieldAddr 69 (.tmp 3) 7)) (.inRegion o25_5 rest :: k) (some 56) env) ∧
  (regS P I next stop o25_5 51 rest k env S = guardS P I next stop (env.getD 53 .undef) true o25_5 rest p25_5_51 k env S) ∧
  (doOp P I next stop o25_5 rest p25_5_51 k env S = bindS next (op1 P (evalV I env) S (.load 67 (.tmp 56))) (.inRegion o25_5 rest :: k) (some 57) env) ∧
  (regS P I next stop o25_5 52 rest k env S = guardS P I next stop (env.getD 53 .undef) true o25_5 rest p25_5_52 k env S) ∧
  (doOp P I next stop o25_5 rest p25_5_52 k env S = bindS next (op1 P (evalV I env) S (.move (.tmp 5))) (.inRegion o25_5 rest :: k) (some 58) env) ∧
  (regS P I next stop o25_5 53 rest k env S = guardS P I next stop (env.getD 53 .undef) true o25_5 rest p25_5_53 k env S) ∧
  (doOp P I next stop o25_5 rest p25_5_53 k env S = callS P I stop (evalV I env (.func 44)) [evalV I env (.tmp 55), evalV I env (.tmp 57), evalV I env (.tmp 58)] (.inRegion o25_5 rest :: k) (some 59) env S) ∧
  (regS P I next stop o25_5 54 rest k env S = bindS next (op1 P (evalV I env) S (.pick (.tmp 53) (.tmp 59) (.const (.bool false)))) (.inRegion o25_5 rest :: k) (some 60) env) ∧
  (regS P I next stop o25_5 55 rest k env S = bindS next (op1 P (evalV I env) S (.assign (.tmp 60))) (.inRegion o25_5 rest :: k) (some 4) env) := by
  repeat' apply And.intro
  all_goals kernel_rfl
theorem c25t  : (p25_5_6.dst = (some 12)) ∧
  (p25_5_7.dst = (some 13)) ∧
  (p25_5_8.dst = (some 14)) ∧
  (p25_5_9.dst = (some 15)) ∧
  (p25_5_10.dst = (some 16)) ∧
  (p25_5_13.dst = (some 19)) ∧
  (p25_5_14.dst = (some 20)) ∧
  (p25_5_15.dst = (some 21)) ∧
  (p25_5_16.dst = (some 22)) ∧
  (p25_5_17.dst = (some 23)) ∧
  (p25_5_20.dst = (some 26)) ∧
  (p25_5_21.dst = (some 27)) ∧
  (p25_5_22.dst = (some 28)) ∧
  (p25_5_23.dst = (some 29)) ∧
  (p25_5_24.dst = (some 30)) ∧
  (p25_5_27.dst = (some 33)) ∧
  (p25_5_28.dst = (some 34)) ∧
  (p25_5_29.dst = (some 35)) ∧
  (p25_5_30.dst = (some 36)) ∧
  (p25_5_31.dst = (some 37)) ∧
  (p25_5_34.dst = (some 40)) ∧
  (p25_5_35.dst = (some 41)) ∧
  (p25_5_36.dst = (some 42)) ∧
  (p25_5_37.dst = (some 43)) ∧
  (p25_5_38.dst = (some 44)) ∧
  (p25_5_41.dst = (some 47)) ∧
  (p25_5_42.dst = (some 48)) ∧
  (p25_5_43.dst = (some 49)) ∧
  (p25_5_44.dst = (some 50)) ∧
  (p25_5_45.dst = (some 51)) ∧
  (p25_5_48.dst = (some 54)) ∧
  (p25_5_49.dst = (some 55)) ∧
  (p25_5_50.dst = (some 56)) ∧
  (p25_5_51.dst = (some 57)) ∧
  (p25_5_52.dst = (some 58)) ∧
  (p25_5_53.dst = (some 59)) := by
  repeat' apply And.intro
  all_goals kernel_rfl
set_option linter.defProp false in
/-- All of these. -/
def c25 := And.intro @c25s ( And.intro @c25r (@c25t))

theorem ssD_drop_eq (a b : List (List UInt8)) (i : Nat) (h : i < a.length) (h' : i < b.length) : decide (a.drop i = b.drop i) = (decide (a[i] = b[i]) && decide (a.drop (i + 1) = b.drop (i + 1))) := by
  rw [List.drop_eq_getElem_cons h, List.drop_eq_getElem_cons h']
  generalize a[i] = x
  generalize b[i] = y
  generalize a.drop (i + 1) = p
  generalize b.drop (i + 1) = q
  by_cases h1 : x = y <;> by_cases h2 : p = q <;> simp [h1, h2]
set_option maxHeartbeats 1000000 in
theorem equalSs_ab0 (a b : List (List UInt8)) :
    AFn Tryd.prog TabI 30 [.d (.sl (ssD a)), .d (.sl (ssD b))] ⟨[], []⟩ (Same (.d (.bool (decide (a = b)))) ⟨[], []⟩) := by
  refine AFn.bodyE (body := k30_0) 26 Tryd.func30 (by kernel_rfl) (by kernel_rfl) (by kernel_rfl) (Nat.le_of_ble_eq_true rfl) fun hsm => ?_
  simp only [smL, sm, exV, stV, tyV, caV, paV, suV, fuV, prV, Bool.and_eq_true, decide_eq_true_eq, and_true, true_and, List.length_map, ssD_length] at hsm
  refine ARun.go 8 ?_
  simp -implicitDefEqProofs only [awC, awN, Nat.reduceAdd, Nat.reduceSub, Nat.reduceLT, Nat.reduceLeDiff, Nat.reduceEqDiff, Int.reduceToNat, Int.reduceEq, Int.reduceLT, Int.reduceLE, Int.reduceNeg, Int.reduceAdd, Int.reduceSub, Nat.reduceBEq, awT, c30, tys]
  by_cases hl : a.length = b.length
  case neg =>
    have hl' : decide ((a.length : Int) = (b.length : Int)) = false := decide_eq_false (by omega)
    have hne : decide (a = b) = false := decide_eq_false (fun e => hl (by rw [e]))
    refine ARun.go 200 ?_
    simp -implicitDefEqProofs only [awC, awN, Nat.reduceAdd, Nat.reduceSub, Nat.reduceLT, Nat.reduceLeDiff, Nat.reduceEqDiff, Int.reduceToNat, Int.reduceEq, Int.reduceLT, Int.reduceLE, Int.reduceNeg, Int.reduceAdd, Int.reduceSub, Nat.reduceBEq, awT, c30, tys, hl']
    refine ARun.ret Tryd.func30 rfl (Left.empty ?_)
    rw [hne]
    exact ⟨rfl, rfl⟩
  have hl' : decide ((a.length : Int) = (b.length : Int)) = true := decide_eq_true (by omega)
  refine ARun.go 30 ?_
  simp -implicitDefEqProofs only [awC, awN, Nat.reduceAdd, Nat.reduceSub, Nat.reduceLT, Nat.reduceLeDiff, Nat.reduceEqDiff, Int.reduceToNat, Int.reduceEq, Int.reduceLT, Int.reduceLE, Int.reduceNeg, Int.reduceAdd, Int.reduceSub, Nat.reduceBEq, awT, c30, tys, hl']
  refine ARun.loopW (fun i : Nat => (envS 26 [(0, .d (.sl (ssD a))), (1, .d (.sl (ssD b))), (12, .d (.int .i64 a.length)), (13, .d (.int .i64 i))], ⟨[], []⟩)) (fun i => i ≤ a.length ∧ decide (a = b) = decide (a.drop i = b.drop i)) (fun i => a.length - i) 0 ⟨by omega, rfl⟩ ?_ rfl ?_
  · skip
    refine Agree.env _ ?_
    simp only [agree_cons, agree_nil, eq_self, and_self, true_and, and_true, Int.natCast_add, Int.natCast_one, Int.natCast_zero, envS_get, envS_eval, lk_cons, lk_nil, Nat.reduceBEq, Nat.reduceAdd, Nat.reduceSub, cond_true, cond_false]
  rintro i ⟨h1, h2⟩ ih
  dsimp only at h1 h2 ih ⊢
  by_cases hlt : i < a.length
  · have hw := wrap_in ((i : Int) + 1) (by omega)
    have hltb : i < b.length := by omega
    have hga := List.getElem?_eq_getElem hlt
    have hgb := List.getElem?_eq_getElem hltb
    have hlt' : decide ((i : Int) < (a.length : Int)) = true := decide_eq_true (by omega)
    have hltb' : decide ((i : Int) < (b.length : Int)) = true := decide_eq_true (by omega)
    rw [ssD_drop_eq a b i hlt hltb] at h2
    refine ARun.go 20 ?_
    simp -implicitDefEqProofs only [awC, awN, Nat.reduceAdd, Nat.reduceSub, Nat.reduceLT, Nat.reduceLeDiff, Nat.reduceEqDiff, Int.reduceToNat, Int.reduceEq, Int.reduceLT, Int.reduceLE, Int.reduceNeg, Int.reduceAdd, Int.reduceSub, Nat.reduceBEq, awT, c30, tys, hlt']
    refine ARun.draw (by kernel_rfl) (by kernel_rfl) (lexQ_ok 60 _ _ ?_)
    simp -implicitDefEqProofs only [awC, awN, Nat.reduceAdd, Nat.reduceSub, Nat.reduceLT, Nat.reduceLeDiff, Nat.reduceEqDiff, Int.reduceToNat, Int.reduceEq, Int.reduceLT, Int.reduceLE, Int.reduceNeg, Int.reduceAdd, Int.reduceSub, Nat.reduceBEq, awT, c30, tys, hga, hgb, hltb]
    cases he : decide (a[i] = b[i])
    · refine ARun.go 200 ?_
      simp -implicitDefEqProofs only [awC, awN, Nat.reduceAdd, Nat.reduceSub, Nat.reduceLT, Nat.reduceLeDiff, Nat.reduceEqDiff, Int.reduceToNat, Int.reduceEq, Int.reduceLT, Int.reduceLE, Int.reduceNeg, Int.reduceAdd, Int.reduceSub, Nat.reduceBEq, awT, c30, tys, he]
      refine ARun.ret Tryd.func30 rfl (Left.empty ?_)
      rw [h2, he]
      exact ⟨rfl, rfl⟩
    · refine ARun.go 200 ?_
      simp -implicitDefEqProofs only [awC, awN, Nat.reduceAdd, Nat.reduceSub, Nat.reduceLT, Nat.reduceLeDiff, Nat.reduceEqDiff, Int.reduceToNat, Int.reduceEq, Int.reduceLT, Int.reduceLE, Int.reduceNeg, Int.reduceAdd, Int.reduceSub, Nat.reduceBEq, awT, c30, tys, he, hw]
      rw [he, Bool.true_and] at h2
      refine ih (i + 1) ⟨hlt, h2⟩ (by omega) _ _ ?_ rfl
      refine Agree.env _ ?_
      simp only [agree_cons, agree_nil, eq_self, and_self, true_and, and_true, Int.natCast_add, Int.natCast_one, Int.natCast_zero, envS_get, envS_eval, lk_cons, lk_nil, Nat.reduceBEq, Nat.reduceAdd, Nat.reduceSub, cond_true, cond_false]
  · have hlt' : decide ((i : Int) < (a.length : Int)) = false := decide_eq_false (by omega)
    refine ARun.go 200 ?_
    simp -implicitDefEqProofs only [awC, awN, Nat.reduceAdd, Nat.reduceSub, Nat.reduceLT, Nat.reduceLeDiff, Nat.reduceEqDiff, Int.reduceToNat, Int.reduceEq, Int.reduceLT, Int.reduceLE, Int.reduceNeg, Int.reduceAdd, Int.reduceSub, Nat.reduceBEq, awT, c30, tys, hlt']
    refine ARun.ret Tryd.func30 rfl (Left.empty ?_)
    rw [h2, List.drop_eq_nil_of_le (by omega), List.drop_eq_nil_of_le (by omega)]
    exact ⟨rfl, rfl⟩
theorem equalSs_ab (a b : List (List UInt8)) (S : Mem) : AFn Tryd.prog TabI 30 [.d (.sl (ssD a)), .d (.sl (ssD b))] S (Same (.d (.bool (decide (a = b)))) S) := (equalSs_ab0 a b).same rfl rfl S

def TOk (t : TyT) : Prop := ∀ (u : TyT) (S : Mem), AFn Tryd.prog TabI 19 [tyV t, tyV u] S (Same (.d (.bool (eqT t u))) S)
set_option maxHeartbeats 1000000 in
theorem sameType_step (t : TyT) (h : ∀ x ∈ t.elem, TOk x) : TOk t := by
  intro u S
  refine AFn.same (v := .d (.bool (eqT t u))) ?_ rfl rfl S
  rw [eqT_mk]
  have he := fun B T => equalFunc_Type 19 [] [] eqT t.elem u.elem B T (fun x hx y _ J => h x hx y _)
  unfold tyV
  cases h1 : decide (t.kind = u.kind)
  · refine AFn.bodyE (body := k19_0) 24 Tryd.func19 (by kernel_rfl) (by kernel_rfl) (by kernel_rfl) (Nat.le_of_ble_eq_true rfl) fun hsm => ?_
    simp only [smL, sm, exV, stV, tyV, caV, paV, suV, fuV, prV, Bool.and_eq_true, decide_eq_true_eq, and_true, true_and, List.length_map, ssD_length] at hsm
    refine ARun.go 200 ?_
    simp -implicitDefEqProofs only [awC, awN, Nat.reduceAdd, Nat.reduceSub, Nat.reduceLT, Nat.reduceLeDiff, Nat.reduceEqDiff, Int.reduceToNat, Int.reduceEq, Int.reduceLT, Int.reduceLE, Int.reduceNeg, Int.reduceAdd, Int.reduceSub, Nat.reduceBEq, awT, c19, tys, h1]
    refine ARun.ret Tryd.func19 rfl (Left.empty ?_)
    exact ⟨rfl, rfl⟩
  cases h2 : decide (t.name = u.name)
  · refine AFn.bodyE (body := k19_0) 24 Tryd.func19 (by kernel_rfl) (by kernel_rfl) (by kernel_rfl) (Nat.le_of_ble_eq_true rfl) fun hsm => ?_
    simp only [smL, sm, exV, stV, tyV, caV, paV, suV, fuV, prV, Bool.and_eq_true, decide_eq_true_eq, and_true, true_and, List.length_map, ssD_length] at hsm
    refine ARun.go 200 ?_
    simp -implicitDefEqProofs only [awC, awN, Nat.reduceAdd, Nat.reduceSub, Nat.reduceLT, Nat.reduceLeDiff, Nat.reduceEqDiff, Int.reduceToNat, Int.reduceEq, Int.reduceLT, Int.reduceLE, Int.reduceNeg, Int.reduceAdd, Int.reduceSub, Nat.reduceBEq, awT, c19, tys, h1, h2]
    refine ARun.ret Tryd.func19 rfl (Left.empty ?_)
    exact ⟨rfl, rfl⟩
  refine AFn.bodyE (body := k19_0) 24 Tryd.func19 (by kernel_rfl) (by kernel_rfl) (by kernel_rfl) (Nat.le_of_ble_eq_true rfl) fun hsm => ?_
  simp only [smL, sm, exV, stV, tyV, caV, paV, suV, fuV, prV, Bool.and_eq_true, decide_eq_true_eq, and_true, true_and, List.length_map, ssD_length] at hsm
  refine ARun.go 200 ?_
  simp -implicitDefEqProofs only [awC, awN, Nat.reduceAdd, Nat.reduceSub, Nat.reduceLT, Nat.reduceLeDiff, Nat.reduceEqDiff, Int.reduceToNat, Int.reduceEq, Int.reduceLT, Int.reduceLE, Int.reduceNeg, Int.reduceAdd, Int.reduceSub, Nat.reduceBEq, awT, c19, tys, h1, h2]
  refine callS_fn (he _ _) ?_
  rintro _ _ ⟨rfl, rfl⟩
  refine ARun.go 200 ?_
  simp -implicitDefEqProofs only [awC, awN, Nat.reduceAdd, Nat.reduceSub, Nat.reduceLT, Nat.reduceLeDiff, Nat.reduceEqDiff, Int.reduceToNat, Int.reduceEq, Int.reduceLT, Int.reduceLE, Int.reduceNeg, Int.reduceAdd, Int.reduceSub, Nat.reduceBEq, awT, c19, tys]
  refine ARun.ret Tryd.func19 rfl (Left.empty ?_)
  exact ⟨rfl, rfl⟩
mutual
theorem sameType_ab : ∀ t : TyT, TOk t
  | .mk k n es => sameType_step (.mk k n es) (sameType_all es)
theorem sameType_all : ∀ (ts : List TyT), ∀ x ∈ ts, TOk x
  | [], _, h => absurd h List.not_mem_nil
  | y :: l, x, h => by
    rcases List.mem_cons.1 h with e | e
    · rw [e]; exact sameType_ab y
    · exact sameType_all l x e
end
def EOk (t : ExT) : Prop := ∀ (u : ExT) (S : Mem), AFn Tryd.prog TabI 12 [exV t, exV u] S (Same (.d (.bool (eqE t u))) S)
set_option maxHeartbeats 2000000 in
theorem sameExpr_step (t : ExT) (h : ∀ x ∈ t.kids, EOk x) : EOk t := by
  intro u S
  refine AFn.same (v := .d (.bool (eqE t u))) ?_ rfl rfl S
  rw [eqE_mk]
  have he := fun B T => equalFunc_Expr 12 [] [] eqE t.kids u.kids B T (fun x hx y _ J => h x hx y _)
  have hty := sameType_ab t.type u.type
  have hns := equalSs_ab t.names u.names
  unfold tyV at hty
  unfold exV
  cases h1 : decide (t.kind = u.kind)
  · refine AFn.bodyE (body := k12_0) 45 Tryd.func12 (by kernel_rfl) (by kernel_rfl) (by kernel_rfl) (Nat.le_of_ble_eq_true rfl) fun hsm => ?_
    simp only [smL, sm, exV, stV, tyV, caV, paV, suV, fuV, prV, Bool.and_eq_true, decide_eq_true_eq, and_true, true_and, List.length_map, ssD_length] at hsm
    refine ARun.go 200 ?_
    simp -implicitDefEqProofs only [awC, awN, Nat.reduceAdd, Nat.reduceSub, Nat.reduceLT, Nat.reduceLeDiff, Nat.reduceEqDiff, Int.reduceToNat, Int.reduceEq, Int.reduceLT, Int.reduceLE, Int.reduceNeg, Int.reduceAdd, Int.reduceSub, Nat.reduceBEq, awT, c12, tys, h1]
    refine ARun.ret Tryd.func12 rfl (Left.empty ?_)
    exact ⟨rfl, rfl⟩
  cases h2 : decide (t.text = u.text)
  · refine AFn.bodyE (body := k12_0) 45 Tryd.func12 (by kernel_rfl) (by kernel_rfl) (by kernel_rfl) (Nat.le_of_ble_eq_true rfl) fun hsm => ?_
    simp only [smL, sm, exV, stV, tyV, caV, paV, suV, fuV, prV, Bool.and_eq_true, decide_eq_true_eq, and_true, true_and, List.length_map, ssD_length] at hsm
    refine ARun.go 200 ?_
    simp -implicitDefEqProofs only [awC, awN, Nat.reduceAdd, Nat.reduceSub, Nat.reduceLT, Nat.reduceLeDiff, Nat.reduceEqDiff, Int.reduceToNat, Int.reduceEq, Int.reduceLT, Int.reduceLE, Int.reduceNeg, Int.reduceAdd, Int.reduceSub, Nat.reduceBEq, awT, c12, tys, h1, h2]
    refine ARun.ret Tryd.func12 rfl (Left.empty ?_)
    exact ⟨rfl, rfl⟩
  cases h3 : decide (t.int = u.int)
  · refine AFn.bodyE (body := k12_0) 45 Tryd.func12 (by kernel_rfl) (by kernel_rfl) (by kernel_rfl) (Nat.le_of_ble_eq_true rfl) fun hsm => ?_
    simp only [smL, sm, exV, stV, tyV, caV, paV, suV, fuV, prV, Bool.and_eq_true, decide_eq_true_eq, and_true, true_and, List.length_map, ssD_length] at hsm
    refine ARun.go 200 ?_
    simp -implicitDefEqProofs only [awC, awN, Nat.reduceAdd, Nat.reduceSub, Nat.reduceLT, Nat.reduceLeDiff, Nat.reduceEqDiff, Int.reduceToNat, Int.reduceEq, Int.reduceLT, Int.reduceLE, Int.reduceNeg, Int.reduceAdd, Int.reduceSub, Nat.reduceBEq, awT, c12, tys, h1, h2, h3]
    refine ARun.ret Tryd.func12 rfl (Left.empty ?_)
    exact ⟨rfl, rfl⟩
  refine AFn.bodyE (body := k12_0) 45 Tryd.func12 (by kernel_rfl) (by kernel_rfl) (by kernel_rfl) (Nat.le_of_ble_eq_true rfl) fun hsm => ?_
  simp only [smL, sm, exV, stV, tyV, caV, paV, suV, fuV, prV, Bool.and_eq_true, decide_eq_true_eq, and_true, true_and, List.length_map, ssD_length] at hsm
  refine ARun.go 200 ?_
  simp -implicitDefEqProofs only [awC, awN, Nat.reduceAdd, Nat.reduceSub, Nat.reduceLT, Nat.reduceLeDiff, Nat.reduceEqDiff, Int.reduceToNat, Int.reduceEq, Int.reduceLT, Int.reduceLE, Int.reduceNeg, Int.reduceAdd, Int.reduceSub, Nat.reduceBEq, awT, c12, tys, h1, h2, h3]
  refine callS_fn (hty _) ?_
  rintro _ _ ⟨rfl, rfl⟩
  cases h4 : eqT t.type u.type
  · refine ARun.go 200 ?_
    simp -implicitDefEqProofs only [awC, awN, Nat.reduceAdd, Nat.reduceSub, Nat.reduceLT, Nat.reduceLeDiff, Nat.reduceEqDiff, Int.reduceToNat, Int.reduceEq, Int.reduceLT, Int.reduceLE, Int.reduceNeg, Int.reduceAdd, Int.reduceSub, Nat.reduceBEq, awT, c12, tys, h4]
    refine ARun.ret Tryd.func12 rfl (Left.empty ?_)
    exact ⟨rfl, rfl⟩
  refine ARun.go 200 ?_
  simp -implicitDefEqProofs only [awC, awN, Nat.reduceAdd, Nat.reduceSub, Nat.reduceLT, Nat.reduceLeDiff, Nat.reduceEqDiff, Int.reduceToNat, Int.reduceEq, Int.reduceLT, Int.reduceLE, Int.reduceNeg, Int.reduceAdd, Int.reduceSub, Nat.reduceBEq, awT, c12, tys, h4]
  refine callS_fn (hns _) ?_
  rintro _ _ ⟨rfl, rfl⟩
  cases h5 : decide (t.names = u.names)
  · refine ARun.go 200 ?_
    simp -implicitDefEqProofs only [awC, awN, Nat.reduceAdd, Nat.reduceSub, Nat.reduceLT, Nat.reduceLeDiff, Nat.reduceEqDiff, Int.reduceToNat, Int.reduceEq, Int.reduceLT, Int.reduceLE, Int.reduceNeg, Int.reduceAdd, Int.reduceSub, Nat.reduceBEq, awT, c12, tys, h5]
    refine ARun.ret Tryd.func12 rfl (Left.empty ?_)
    exact ⟨rfl, rfl⟩
  refine ARun.go 200 ?_
  simp -implicitDefEqProofs only [awC, awN, Nat.reduceAdd, Nat.reduceSub, Nat.reduceLT, Nat.reduceLeDiff, Nat.reduceEqDiff, Int.reduceToNat, Int.reduceEq, Int.reduceLT, Int.reduceLE, Int.reduceNeg, Int.reduceAdd, Int.reduceSub, Nat.reduceBEq, awT, c12, tys, h5]
  refine callS_fn (he _ _) ?_
  rintro _ _ ⟨rfl, rfl⟩
  refine ARun.go 200 ?_
  simp -implicitDefEqProofs only [awC, awN, Nat.reduceAdd, Nat.reduceSub, Nat.reduceLT, Nat.reduceLeDiff, Nat.reduceEqDiff, Int.reduceToNat, Int.reduceEq, Int.reduceLT, Int.reduceLE, Int.reduceNeg, Int.reduceAdd, Int.reduceSub, Nat.reduceBEq, awT, c12, tys]
  refine ARun.ret Tryd.func12 rfl (Left.empty ?_)
  exact ⟨rfl, rfl⟩
mutual
theorem sameExpr_ab : ∀ t : ExT, EOk t
  | .mk k t i ty ns ks => sameExpr_step (.mk k t i ty ns ks) (sameExpr_all ks)
theorem sameExpr_all : ∀ (ts : List ExT), ∀ x ∈ ts, EOk x
  | [], _, h => absurd h List.not_mem_nil
  | y :: l, x, h => by
    rcases List.mem_cons.1 h with e | e
    · rw [e]; exact sameExpr_ab y
    · exact sameExpr_all l x e
end
def SOk (t : StT) : Prop := ∀ (u : StT) (S : Mem), AFn Tryd.prog TabI 25 [stV t, stV u] S (Same (.d (.bool (eqSt t u))) S)
set_option maxHeartbeats 1000000 in
theorem sameCase_ab (t : CaT) (h : ∀ x ∈ t.body, SOk x) (u : CaT) (S : Mem) : AFn Tryd.prog TabI 43 [caV t, caV u] S (Same (.d (.bool (eqCa t u))) S) := by
  refine AFn.same (v := .d (.bool (eqCa t u))) ?_ rfl rfl S
  rw [eqCa_mk]
  have he := fun B T => equalFunc_Stmt 25 [] [] eqSt t.body u.body B T (fun x hx y _ J => h x hx y _)
  unfold caV
  cases h1 : decide (t.int = u.int)
  · refine AFn.bodyE (body := k43_0) 17 Tryd.func43 (by kernel_rfl) (by kernel_rfl) (by kernel_rfl) (Nat.le_of_ble_eq_true rfl) fun hsm => ?_
    simp only [smL, sm, exV, stV, tyV, caV, paV, suV, fuV, prV, Bool.and_eq_true, decide_eq_true_eq, and_true, true_and, List.length_map, ssD_length] at hsm
    refine ARun.go 200 ?_
    simp -implicitDefEqProofs only [awC, awN, Nat.reduceAdd, Nat.reduceSub, Nat.reduceLT, Nat.reduceLeDiff, Nat.reduceEqDiff, Int.reduceToNat, Int.reduceEq, Int.reduceLT, Int.reduceLE, Int.reduceNeg, Int.reduceAdd, Int.reduceSub, Nat.reduceBEq, awT, c43, tys, h1]
    refine ARun.ret Tryd.func43 rfl (Left.empty ?_)
    exact ⟨rfl, rfl⟩
  refine AFn.bodyE (body := k43_0) 17 Tryd.func43 (by kernel_rfl) (by kernel_rfl) (by kernel_rfl) (Nat.le_of_ble_eq_true rfl) fun hsm => ?_
  simp only [smL, sm, exV, stV, tyV, caV, paV, suV, fuV, prV, Bool.and_eq_true, decide_eq_true_eq, and_true, true_and, List.length_map, ssD_length] at hsm
  refine ARun.go 200 ?_
  simp -implicitDefEqProofs only [awC, awN, Nat.reduceAdd, Nat.reduceSub, Nat.reduceLT, Nat.reduceLeDiff, Nat.reduceEqDiff, Int.reduceToNat, Int.reduceEq, Int.reduceLT, Int.reduceLE, Int.reduceNeg, Int.reduceAdd, Int.reduceSub, Nat.reduceBEq, awT, c43, tys, h1]
  refine callS_fn (he _ _) ?_
  rintro _ _ ⟨rfl, rfl⟩
  refine ARun.go 200 ?_
  simp -implicitDefEqProofs only [awC, awN, Nat.reduceAdd, Nat.reduceSub, Nat.reduceLT, Nat.reduceLeDiff, Nat.reduceEqDiff, Int.reduceToNat, Int.reduceEq, Int.reduceLT, Int.reduceLE, Int.reduceNeg, Int.reduceAdd, Int.reduceSub, Nat.reduceBEq, awT, c43, tys]
  refine ARun.ret Tryd.func43 rfl (Left.empty ?_)
  exact ⟨rfl, rfl⟩
set_option maxHeartbeats 4000000 in
theorem sameStmt_step (t : StT) (hb : ∀ x ∈ t.body, SOk x) (hl : ∀ x ∈ t.els, SOk x) (hc : ∀ c ∈ t.cases, ∀ x ∈ c.body, SOk x) : SOk t := by
  intro u S
  refine AFn.same (v := .d (.bool (eqSt t u))) ?_ rfl rfl S
  rw [eqSt_mk]
  have hns := equalSs_ab t.names u.names
  have hty := sameType_ab t.type u.type
  have hle := fun B T => equalFunc_Expr 12 [] [] eqE t.lefts u.lefts B T (fun x hx y _ J => sameExpr_ab x y _)
  have hex := fun B T => equalFunc_Expr 12 [] [] eqE t.exprs u.exprs B T (fun x hx y _ J => sameExpr_ab x y _)
  have hbo := fun B T => equalFunc_Stmt 25 [] [] eqSt t.body u.body B T (fun x hx y _ J => hb x hx y _)
  have hel := fun B T => equalFunc_Stmt 25 [] [] eqSt t.els u.els B T (fun x hx y _ J => hl x hx y _)
  have hca := fun B T => equalFunc_Case 43 [] [] eqCa t.cases u.cases B T (fun x hx y _ J => sameCase_ab x (hc x hx) y _)
  unfold tyV at hty
  unfold stV
  cases h1 : decide (t.kind = u.kind)
  · refine AFn.bodyE (body := k25_0) 61 Tryd.func25 (by kernel_rfl) (by kernel_rfl) (by kernel_rfl) (Nat.le_of_ble_eq_true rfl) fun hsm => ?_
    simp only [smL, sm, exV, stV, tyV, caV, paV, suV, fuV, prV, Bool.and_eq_true, decide_eq_true_eq, and_true, true_and, List.length_map, ssD_length] at hsm
    refine ARun.go 200 ?_
    simp -implicitDefEqProofs only [awC, awN, Nat.reduceAdd, Nat.reduceSub, Nat.reduceLT, Nat.reduceLeDiff, Nat.reduceEqDiff, Int.reduceToNat, Int.reduceEq, Int.reduceLT, Int.reduceLE, Int.reduceNeg, Int.reduceAdd, Int.reduceSub, Nat.reduceBEq, awT, c25, tys, h1]
    refine ARun.ret Tryd.func25 rfl (Left.empty ?_)
    exact ⟨rfl, rfl⟩
  refine AFn.bodyE (body := k25_0) 61 Tryd.func25 (by kernel_rfl) (by kernel_rfl) (by kernel_rfl) (Nat.le_of_ble_eq_true rfl) fun hsm => ?_
  simp only [smL, sm, exV, stV, tyV, caV, paV, suV, fuV, prV, Bool.and_eq_true, decide_eq_true_eq, and_true, true_and, List.length_map, ssD_length] at hsm
  refine ARun.go 200 ?_
  simp -implicitDefEqProofs only [awC, awN, Nat.reduceAdd, Nat.reduceSub, Nat.reduceLT, Nat.reduceLeDiff, Nat.reduceEqDiff, Int.reduceToNat, Int.reduceEq, Int.reduceLT, Int.reduceLE, Int.reduceNeg, Int.reduceAdd, Int.reduceSub, Nat.reduceBEq, awT, c25, tys, h1]
  refine callS_fn (hns _) ?_
  rintro _ _ ⟨rfl, rfl⟩
  cases h2 : decide (t.names = u.names)
  · refine ARun.go 200 ?_
    simp -implicitDefEqProofs only [awC, awN, Nat.reduceAdd, Nat.reduceSub, Nat.reduceLT, Nat.reduceLeDiff, Nat.reduceEqDiff, Int.reduceToNat, Int.reduceEq, Int.reduceLT, Int.reduceLE, Int.reduceNeg, Int.reduceAdd, Int.reduceSub, Nat.reduceBEq, awT, c25, tys, h2]
    refine ARun.ret Tryd.func25 rfl (Left.empty ?_)
    exact ⟨rfl, rfl⟩
  refine ARun.go 200 ?_
  simp -implicitDefEqProofs only [awC, awN, Nat.reduceAdd, Nat.reduceSub, Nat.reduceLT, Nat.reduceLeDiff, Nat.reduceEqDiff, Int.reduceToNat, Int.reduceEq, Int.reduceLT, Int.reduceLE, Int.reduceNeg, Int.reduceAdd, Int.reduceSub, Nat.reduceBEq, awT, c25, tys, h2]
  refine callS_fn (hty _) ?_
  rintro _ _ ⟨rfl, rfl⟩
  cases h3 : eqT t.type u.type
  · refine ARun.go 200 ?_
    simp -implicitDefEqProofs only [awC, awN, Nat.reduceAdd, Nat.reduceSub, Nat.reduceLT, Nat.reduceLeDiff, Nat.reduceEqDiff, Int.reduceToNat, Int.reduceEq, Int.reduceLT, Int.reduceLE, Int.reduceNeg, Int.reduceAdd, Int.reduceSub, Nat.reduceBEq, awT, c25, tys, h3]
    refine ARun.ret Tryd.func25 rfl (Left.empty ?_)
    exact ⟨rfl, rfl⟩
  refine ARun.go 200 ?_
  simp -implicitDefEqProofs only [awC, awN, Nat.reduceAdd, Nat.reduceSub, Nat.reduceLT, Nat.reduceLeDiff, Nat.reduceEqDiff, Int.reduceToNat, Int.reduceEq, Int.reduceLT, Int.reduceLE, Int.reduceNeg, Int.reduceAdd, Int.reduceSub, Nat.reduceBEq, awT, c25, tys, h3]
  refine callS_fn (hle _ _) ?_
  rintro _ _ ⟨rfl, rfl⟩
  cases h4 : eqF eqE t.lefts u.lefts
  · refine ARun.go 200 ?_
    simp -implicitDefEqProofs only [awC, awN, Nat.reduceAdd, Nat.reduceSub, Nat.reduceLT, Nat.reduceLeDiff, Nat.reduceEqDiff, Int.reduceToNat, Int.reduceEq, Int.reduceLT, Int.reduceLE, Int.reduceNeg, Int.reduceAdd, Int.reduceSub, Nat.reduceBEq, awT, c25, tys, h4]
    refine ARun.ret Tryd.func25 rfl (Left.empty ?_)
    exact ⟨rfl, rfl⟩
  refine ARun.go 200 ?_
  simp -implicitDefEqProofs only [awC, awN, Nat.reduceAdd, Nat.reduceSub, Nat.reduceLT, Nat.reduceLeDiff, Nat.reduceEqDiff, Int.reduceToNat, Int.reduceEq, Int.reduceLT, Int.reduceLE, Int.reduceNeg, Int.reduceAdd, Int.reduceSub, Nat.reduceBEq, awT, c25, tys, h4]
  refine callS_fn (hex _ _) ?_
  rintro _ _ ⟨rfl, rfl⟩
  cases h5 : eqF eqE t.exprs u.exprs
  · refine ARun.go 200 ?_
    simp -implicitDefEqProofs only [awC, awN, Nat.reduceAdd, Nat.reduceSub, Nat.reduceLT, Nat.reduceLeDiff, Nat.reduceEqDiff, Int.reduceToNat, Int.reduceEq, Int.reduceLT, Int.reduceLE, Int.reduceNeg, Int.reduceAdd, Int.reduceSub, Nat.reduceBEq, awT, c25, tys, h5]
    refine ARun.ret Tryd.func25 rfl (Left.empty ?_)
    exact ⟨rfl, rfl⟩
  refine ARun.go 200 ?_
  simp -implicitDefEqProofs only [awC, awN, Nat.reduceAdd, Nat.reduceSub, Nat.reduceLT, Nat.reduceLeDiff, Nat.reduceEqDiff, Int.reduceToNat, Int.reduceEq, Int.reduceLT, Int.reduceLE, Int.reduceNeg, Int.reduceAdd, Int.reduceSub, Nat.reduceBEq, awT, c25, tys, h5]
  refine callS_fn (hbo _ _) ?_
  rintro _ _ ⟨rfl, rfl⟩
  cases h6 : eqF eqSt t.body u.body
  · refine ARun.go 200 ?_
    simp -implicitDefEqProofs only [awC, awN, Nat.reduceAdd, Nat.reduceSub, Nat.reduceLT, Nat.reduceLeDiff, Nat.reduceEqDiff, Int.reduceToNat, Int.reduceEq, Int.reduceLT, Int.reduceLE, Int.reduceNeg, Int.reduceAdd, Int.reduceSub, Nat.reduceBEq, awT, c25, tys, h6]
    refine ARun.ret Tryd.func25 rfl (Left.empty ?_)
    exact ⟨rfl, rfl⟩
  refine ARun.go 200 ?_
  simp -implicitDefEqProofs only [awC, awN, Nat.reduceAdd, Nat.reduceSub, Nat.reduceLT, Nat.reduceLeDiff, Nat.reduceEqDiff, Int.reduceToNat, Int.reduceEq, Int.reduceLT, Int.reduceLE, Int.reduceNeg, Int.reduceAdd, Int.reduceSub, Nat.reduceBEq, awT, c25, tys, h6]
  refine callS_fn (hel _ _) ?_
  rintro _ _ ⟨rfl, rfl⟩
  cases h7 : eqF eqSt t.els u.els
  · refine ARun.go 200 ?_
    simp -implicitDefEqProofs only [awC, awN, Nat.reduceAdd, Nat.reduceSub, Nat.reduceLT, Nat.reduceLeDiff, Nat.reduceEqDiff, Int.reduceToNat, Int.reduceEq, Int.reduceLT, Int.reduceLE, Int.reduceNeg, Int.reduceAdd, Int.reduceSub, Nat.reduceBEq, awT, c25, tys, h7]
    refine ARun.ret Tryd.func25 rfl (Left.empty ?_)
    exact ⟨rfl, rfl⟩
  refine ARun.go 200 ?_
  simp -implicitDefEqProofs only [awC, awN, Nat.reduceAdd, Nat.reduceSub, Nat.reduceLT, Nat.reduceLeDiff, Nat.reduceEqDiff, Int.reduceToNat, Int.reduceEq, Int.reduceLT, Int.reduceLE, Int.reduceNeg, Int.reduceAdd, Int.reduceSub, Nat.reduceBEq, awT, c25, tys, h7]
  refine callS_fn (hca _ _) ?_
  rintro _ _ ⟨rfl, rfl⟩
  refine ARun.go 200 ?_
  simp -implicitDefEqProofs only [awC, awN, Nat.reduceAdd, Nat.reduceSub, Nat.reduceLT, Nat.reduceLeDiff, Nat.reduceEqDiff, Int.reduceToNat, Int.reduceEq, Int.reduceLT, Int.reduceLE, Int.reduceNeg, Int.reduceAdd, Int.reduceSub, Nat.reduceBEq, awT, c25, tys]
  refine ARun.ret Tryd.func25 rfl (Left.empty ?_)
  exact ⟨rfl, rfl⟩
mutual
theorem sameStmt_ab : ∀ t : StT, SOk t
  | .mk k ns ty ls es b e cs => sameStmt_step (.mk k ns ty ls es b e cs) (sameStmt_all b) (sameStmt_all e) (sameCase_all cs)
theorem sameStmt_all : ∀ (ts : List StT), ∀ x ∈ ts, SOk x
  | [], _, h => absurd h List.not_mem_nil
  | y :: l, x, h => by
    rcases List.mem_cons.1 h with e | e
    · rw [e]; exact sameStmt_ab y
    · exact sameStmt_all l x e
theorem sameCase_all : ∀ (cs : List CaT), ∀ c ∈ cs, ∀ x ∈ c.body, SOk x
  | [], _, h => absurd h List.not_mem_nil
  | .mk i b :: l, c, h => by
    rcases List.mem_cons.1 h with e | e
    · rw [e]; exact sameStmt_all b
    · exact sameCase_all l c e
end
end Go.Proofs.YtombghldgdcjcaaDoor

/- goast.Same. -/
namespace Go.Proofs.YtombghldgdcjcaaDoor
open Go.RowKit Go.Av Go.Ab
set_option linter.unusedSimpArgs false
set_option maxRecDepth 100000
noncomputable def k18_0 : Code := bodyOf Tryd.f18
noncomputable def k18_1 : Code := lft k18_0
noncomputable def o18_1 : Array Oper := opsOf k18_1
noncomputable def k18_2 : Code := rgt k18_0
noncomputable def k18_3 : Code := lft k18_2
noncomputable def o18_3 : Array Oper := opsOf k18_3
noncomputable def p18_3_6 : Oper := opAt o18_3 6
noncomputable def p18_3_7 : Oper := opAt o18_3 7
noncomputable def p18_3_8 : Oper := opAt o18_3 8
noncomputable def p18_3_9 : Oper := opAt o18_3 9
noncomputable def p18_3_10 : Oper := opAt o18_3 10
noncomputable def k18_4 : Code := rgt k18_2
theorem c18s (I : Inv) (next stop : Cont) (k : List Item) (env : List V) (S : Mem) : (codeS I next stop k18_1 k env S = next (.inRegion o18_1 [0, 1, 2] :: k) env S) ∧
  (codeS I next stop k18_3 k env S = next (.inRegion o18_3 [0, 1, 2, 3, 4, 5, 6, 7, 8, 9, 10, 11, 12] :: k) env S) ∧
  (codeS I next stop k18_4 k env S = stop (.code .ret :: k) env S) ∧
  (codeS I next stop k18_2 k env S = next (.code k18_3 :: .code k18_4 :: k) env S) ∧
  (codeS I next stop k18_0 k env S = next (.code k18_1 :: .code k18_2 :: k) env S) := by
  repeat' apply And.intro
  all_goals kernel_rfl
theorem c18r (P : Program) (I : Inv) (next stop : Cont) (rest : List Nat) (k : List Item) (env : List V) (S : Mem) : (regS P I next stop o18_1 0 rest k env S = bindS next (op1 P (evalV I env) S (.box 60 (.tmp 0))) (.inRegion o18_1 rest :: k) (some 2) env) ∧
  (regS P I next stop o18_1 1 rest k env S = bindS next (op1 P (evalV I env) S (.box 60 (.tmp 1))) (.inRegion o18_1 rest :: k) (some 3) env) ∧
  (regS P I next stop o18_1 2 rest k env S = bindS next (op1 P (evalV I env) S (.assign (.const (.bool false)))) (.inRegion o18_1 rest :: k) (some 4) env) ∧
  (regS P I next stop o18_3 0 rest k env S = bindS next (op1 P (evalV I env) S (.fieldAddr 60 (.tmp 2) 0)) (.inRegion o18_3 rest :: k) (some 5) env) ∧
  (regS P I next stop o18_3 1 rest k env S = bindS next (op1 P (evalV I env) S (.load 9 (.tmp 5))) (.inRegion o18_3 rest :: k) (some 6) env) ∧
  (regS P I next stop o18_3 2 rest k env S = bindS next (op1 P (evalV I env) S (.fieldAddr 60 (.tmp 3) 0)) (.inRegion o18_3 rest :: k) (some 7) env) ∧
  (regS P I next stop o18_3 3 rest k env S = bindS next (op1 P (evalV I env) S (.load 9 (.tmp 7))) (.inRegion o18_3 rest :: k) (some 8) env) ∧
  (regS P I next stop o18_3 4 rest k env S = bindS next (op1 P (evalV I env) S (.binOp .eql 9 (.tmp 6) (.tmp 8) 9)) (.inRegion o18_3 rest :: k) (some 9) env) ∧
  (regS P I next stop o18_3 5 rest k env S = bindS next (op1 P (evalV I env) S (.move (.tmp 9))) (.inRegion o18_3 rest :: k) (some 10) env) ∧
  (regS P I next stop o18_3 6 rest k env S = guardS P I next stop (env.getD 10 .undef) true o18_3 rest p18_3_6 k env S) ∧
  (doOp P I next stop o18_3 rest p18_3_6 k env S = bindS next (op1 P (evalV I env) S (.fieldAddr 60 (.tmp 2) 1)) (.inRegion o18_3 rest :: k) (some 11) env) ∧
  (regS P I next stop o18_3 7 rest k env S = guardS P I next stop (env.getD 10 .undef) true o18_3 rest p18_3_7 k env S) ∧
  (doOp P I next stop o18_3 rest p18_3_7 k env S = bindS next (op1 P (evalV I env) S (.load 34 (.tmp 11))) (.inRegion o18_3 rest :: k) (some 12) env) ∧
  (regS P I next stop o18_3 8 rest k env S = guardS P I next stop (env.getD 10 .undef) true o18_3 rest p18_3_8 k env S) ∧
  (doOp P I next stop o18_3 rest p18_3_8 k env S = bindS next (op1 P (evalV I env) S (.fieldAddr 60 (.tmp 3) 1)) (.inRegion o18_3 rest :: k) (some 13) env) ∧
  (regS P I next stop o18_3 9 rest k env S = guardS P I next stop (env.getD 10 .undef) true o18_3 rest p18_3_9 k env S) ∧
  (doOp P I next stop o18_3 rest p18_3_9 k env S = bindS next (op1 P (evalV I env) S (.load 34 (.tmp 13))) (.inRegion o18_3 rest :: k) (some 14) env) ∧
  (regS P I next stop o18_3 10 rest k env S = guardS P I next stop (env.getD 10 .undef) true o18_3 rest p18_3_10 k env S) ∧
  (doOp P I next stop o18_3 rest p18_3_10 k env S = callS P I stop (evalV I env (.func 19)) [evalV I env (.tmp 12), evalV I env (.tmp 14)] (.inRegion o18_3 rest :: k) (some 15) env S) ∧
  (regS P I next stop o18_3 11 rest k env S = bindS next (op1 P (evalV I env) S (.pick (.tmp 10) (.tmp 15) (.const (.bool false)))) (.inRegion o18_3 rest :: k) (some 16) env) ∧
  (regS P I next stop o18_3 12 rest k env S = bindS next (op1 P (evalV I env) S (.assign (.tmp 16))) (.inRegion o18_3 rest :: k) (some 4) env) := by
  repeat' apply And.intro
  all_goals kernel_rfl
theorem c18t  : (p18_3_6.dst = (some 11)) ∧
  (p18_3_7.dst = (some 12)) ∧
  (p18_3_8.dst = (some 13)) ∧
  (p18_3_9.dst = (some 14)) ∧
  (p18_3_10.dst = (some 15)) := by
  repeat' apply And.intro
  all_goals kernel_rfl
set_option linter.defProp false in
/-- All of these. -/
def c18 := And.intro @c18s ( And.intro @c18r (@c18t))
noncomputable def k20_0 : Code := bodyOf Tryd.f20
noncomputable def k20_1 : Code := lft k20_0
noncomputable def o20_1 : Array Oper := opsOf k20_1
noncomputable def k20_2 : Code := rgt k20_0
noncomputable def k20_3 : Code := lft k20_2
noncomputable def o20_3 : Array Oper := opsOf k20_3
noncomputable def p20_3_6 : Oper := opAt o20_3 6
noncomputable def p20_3_7 : Oper := opAt o20_3 7
noncomputable def p20_3_8 : Oper := opAt o20_3 8
noncomputable def p20_3_9 : Oper := opAt o20_3 9
noncomputable def p20_3_10 : Oper := opAt o20_3 10
noncomputable def p20_3_11 : Oper := opAt o20_3 11
noncomputable def k20_4 : Code := rgt k20_2
theorem c20s (I : Inv) (next stop : Cont) (k : List Item) (env : List V) (S : Mem) : (codeS I next stop k20_1 k env S = next (.inRegion o20_1 [0, 1, 2] :: k) env S) ∧
  (codeS I next stop k20_3 k env S = next (.inRegion o20_3 [0, 1, 2, 3, 4, 5, 6, 7, 8, 9, 10, 11, 12, 13] :: k) env S) ∧
  (codeS I next stop k20_4 k env S = stop (.code .ret :: k) env S) ∧
  (codeS I next stop k20_2 k env S = next (.code k20_3 :: .code k20_4 :: k) env S) ∧
  (codeS I next stop k20_0 k env S = next (.code k20_1 :: .code k20_2 :: k) env S) := by
  repeat' apply And.intro
  all_goals kernel_rfl
theorem c20r (P : Program) (I : Inv) (next stop : Cont) (rest : List Nat) (k : List Item) (env : List V) (S : Mem) : (regS P I next stop o20_1 0 rest k env S = bindS next (op1 P (evalV I env) S (.box 52 (.tmp 0))) (.inRegion o20_1 rest :: k) (some 3) env) ∧
  (regS P I next stop o20_1 1 rest k env S = bindS next (op1 P (evalV I env) S (.box 52 (.tmp 1))) (.inRegion o20_1 rest :: k) (some 4) env) ∧
  (regS P I next stop o20_1 2 rest k env S = bindS next (op1 P (evalV I env) S (.assign (.const (.bool false)))) (.inRegion o20_1 rest :: k) (some 5) env) ∧
  (regS P I next stop o20_3 0 rest k env S = bindS next (op1 P (evalV I env) S (.fieldAddr 52 (.tmp 3) 0)) (.inRegion o20_3 rest :: k) (some 6) env) ∧
  (regS P I next stop o20_3 1 rest k env S = bindS next (op1 P (evalV I env) S (.load 9 (.tmp 6))) (.inRegion o20_3 rest :: k) (some 7) env) ∧
  (regS P I next stop o20_3 2 rest k env S = bindS next (op1 P (evalV I env) S (.fieldAddr 52 (.tmp 4) 0)) (.inRegion o20_3 rest :: k) (some 8) env) ∧
  (regS P I next stop o20_3 3 rest k env S = bindS next (op1 P (evalV I env) S (.load 9 (.tmp 8))) (.inRegion o20_3 rest :: k) (some 9) env) ∧
  (regS P I next stop o20_3 4 rest k env S = bindS next (op1 P (evalV I env) S (.binOp .eql 9 (.tmp 7) (.tmp 9) 9)) (.inRegion o20_3 rest :: k) (some 10) env) ∧
  (regS P I next stop o20_3 5 rest k env S = bindS next (op1 P (evalV I env) S (.move (.tmp 10))) (.inRegion o20_3 rest :: k) (some 11) env) ∧
  (regS P I next stop o20_3 6 rest k env S = guardS P I next stop (env.getD 11 .undef) true o20_3 rest p20_3_6 k env S) ∧
  (doOp P I next stop o20_3 rest p20_3_6 k env S = bindS next (op1 P (evalV I env) S (.fieldAddr 52 (.tmp 3) 1)) (.inRegion o20_3 rest :: k) (some 12) env) ∧
  (regS P I next stop o20_3 7 rest k env S = guardS P I next stop (env.getD 11 .undef) true o20_3 rest p20_3_7 k env S) ∧
  (doOp P I next stop o20_3 rest p20_3_7 k env S = bindS next (op1 P (evalV I env) S (.load 50 (.tmp 12))) (.inRegion o20_3 rest :: k) (some 13) env) ∧
  (regS P I next stop o20_3 8 rest k env S = guardS P I next stop (env.getD 11 .undef) true o20_3 rest p20_3_8 k env S) ∧
  (doOp P I next stop o20_3 rest p20_3_8 k env S = bindS next (op1 P (evalV I env) S (.fieldAddr 52 (.tmp 4) 1)) (.inRegion o20_3 rest :: k) (some 14) env) ∧
  (regS P I next stop o20_3 9 rest k env S = guardS P I next stop (env.getD 11 .undef) true o20_3 rest p20_3_9 k env S) ∧
  (doOp P I next stop o20_3 rest p20_3_9 k env S = bindS next (op1 P (evalV I env) S (.load 50 (.tmp 14))) (.inRegion o20_3 rest :: k) (some 15) env) ∧
  (regS P I next stop o20_3 10 rest k env S = guardS P I next stop (env.getD 11 .undef) true o20_3 rest p20_3_10 k env S) ∧
  (doOp P I next stop o20_3 rest p20_3_10 k env S = bindS next (op1 P (evalV I env) S (.load 62 (.tmp 2))) (.inRegion o20_3 rest :: k) (some 16) env) ∧
  (regS P I next stop o20_3 11 rest k env S = guardS P I next stop (env.getD 11 .undef) true o20_3 rest p20_3_11 k env S) ∧
  (doOp P I next stop o20_3 rest p20_3_11 k env S = callS P I stop (evalV I env (.func 21)) [evalV I env (.tmp 13), evalV I env (.tmp 15), evalV I env (.tmp 16)] (.inRegion o20_3 rest :: k) (some 17) env S) ∧
  (regS P I next stop o20_3 12 rest k env S = bindS next (op1 P (evalV I env) S (.pick (.tmp 11) (.tmp 17) (.const (.bool false)))) (.inRegion o20_3 rest :: k) (some 18) env) ∧
  (regS P I next stop o20_3 13 rest k env S = bindS next (op1 P (evalV I env) S (.assign (.tmp 18))) (.inRegion o20_3 rest :: k) (some 5) env) := by
  repeat' apply And.intro
  all_goals kernel_rfl
theorem c20t  : (p20_3_6.dst = (some 12)) ∧
  (p20_3_7.dst = (some 13)) ∧
  (p20_3_8.dst = (some 14)) ∧
  (p20_3_9.dst = (some 15)) ∧
  (p20_3_10.dst = (some 16)) ∧
  (p20_3_11.dst = (some 17)) := by
  repeat' apply And.intro
  all_goals kernel_rfl
set_option linter.defProp false in
/-- All of these. -/
def c20 := And.intro @c20s ( And.intro @c20r (@c20t))
noncomputable def k22_0 : Code := bodyOf Tryd.f22
noncomputable def k22_1 : Code := lft k22_0
noncomputable def o22_1 : Array Oper := opsOf k22_1
noncomputable def k22_2 : Code := rgt k22_0
noncomputable def k22_3 : Code := lft k22_2
noncomputable def o22_3 : Array Oper := opsOf k22_3
noncomputable def p22_3_6 : Oper := opAt o22_3 6
noncomputable def p22_3_7 : Oper := opAt o22_3 7
noncomputable def p22_3_8 : Oper := opAt o22_3 8
noncomputable def p22_3_9 : Oper := opAt o22_3 9
noncomputable def p22_3_10 : Oper := opAt o22_3 10
noncomputable def p22_3_11 : Oper := opAt o22_3 11
noncomputable def p22_3_14 : Oper := opAt o22_3 14
noncomputable def p22_3_15 : Oper := opAt o22_3 15
noncomputable def p22_3_16 : Oper := opAt o22_3 16
noncomputable def p22_3_17 : Oper := opAt o22_3 17
noncomputable def p22_3_18 : Oper := opAt o22_3 18
noncomputable def p22_3_21 : Oper := opAt o22_3 21
noncomputable def p22_3_22 : Oper := opAt o22_3 22
noncomputable def p22_3_23 : Oper := opAt o22_3 23
noncomputable def p22_3_24 : Oper := opAt o22_3 24
noncomputable def p22_3_25 : Oper := opAt o22_3 25
noncomputable def k22_4 : Code := rgt k22_2
theorem c22s (I : Inv) (next stop : Cont) (k : List Item) (env : List V) (S : Mem) : (codeS I next stop k22_1 k env S = next (.inRegion o22_1 [0, 1, 2] :: k) env S) ∧
  (codeS I next stop k22_3 k env S = next (.inRegion o22_3 [0, 1, 2, 3, 4, 5, 6, 7, 8, 9, 10, 11, 12, 13, 14, 15, 16, 17, 18, 19, 20, 21, 22, 23, 24, 25, 26, 27] :: k) env S) ∧
  (codeS I next stop k22_4 k env S = stop (.code .ret :: k) env S) ∧
  (codeS I next stop k22_2 k env S = next (.code k22_3 :: .code k22_4 :: k) env S) ∧
  (codeS I next stop k22_0 k env S = next (.code k22_1 :: .code k22_2 :: k) env S) := by
  repeat' apply And.intro
  all_goals kernel_rfl
theorem c22r (P : Program) (I : Inv) (next stop : Cont) (rest : List Nat) (k : List Item) (env : List V) (S : Mem) : (regS P I next stop o22_1 0 rest k env S = bindS next (op1 P (evalV I env) S (.box 56 (.tmp 0))) (.inRegion o22_1 rest :: k) (some 3) env) ∧
  (regS P I next stop o22_1 1 rest k env S = bindS next (op1 P (evalV I env) S (.box 56 (.tmp 1))) (.inRegion o22_1 rest :: k) (some 4) env) ∧
  (regS P I next stop o22_1 2 rest k env S = bindS next (op1 P (evalV I env) S (.assign (.const (.bool false)))) (.inRegion o22_1 rest :: k) (some 5) env) ∧
  (regS P I next stop o22_3 0 rest k env S = bindS next (op1 P (evalV I env) S (.fieldAddr 56 (.tmp 3) 0)) (.inRegion o22_3 rest :: k) (some 6) env) ∧
  (regS P I next stop o22_3 1 rest k env S = bindS next (op1 P (evalV I env) S (.load 9 (.tmp 6))) (.inRegion o22_3 rest :: k) (some 7) env) ∧
  (regS P I next stop o22_3 2 rest k env S = bindS next (op1 P (evalV I env) S (.fieldAddr 56 (.tmp 4) 0)) (.inRegion o22_3 rest :: k) (some 8) env) ∧
  (regS P I next stop o22_3 3 rest k env S = bindS next (op1 P (evalV I env) S (.load 9 (.tmp 8))) (.inRegion o22_3 rest :: k) (some 9) env) ∧
  (regS P I next stop o22_3 4 rest k env S = bindS next (op1 P (evalV I env) S (.binOp .eql 9 (.tmp 7) (.tmp 9) 9)) (.inRegion o22_3 rest :: k) (some 10) env) ∧
  (regS P I next stop o22_3 5 rest k env S = bindS next (op1 P (evalV I env) S (.move (.tmp 10))) (.inRegion o22_3 rest :: k) (some 11) env) ∧
  (regS P I next stop o22_3 6 rest k env S = guardS P I next stop (env.getD 11 .undef) true o22_3 rest p22_3_6 k env S) ∧
  (doOp P I next stop o22_3 rest p22_3_6 k env S = bindS next (op1 P (evalV I env) S (.fieldAddr 56 (.tmp 3) 1)) (.inRegion o22_3 rest :: k) (some 12) env) ∧
  (regS P I next stop o22_3 7 rest k env S = guardS P I next stop (env.getD 11 .undef) true o22_3 rest p22_3_7 k env S) ∧
  (doOp P I next stop o22_3 rest p22_3_7 k env S = bindS next (op1 P (evalV I env) S (.load 50 (.tmp 12))) (.inRegion o22_3 rest :: k) (some 13) env) ∧
  (regS P I next stop o22_3 8 rest k env S = guardS P I next stop (env.getD 11 .undef) true o22_3 rest p22_3_8 k env S) ∧
  (doOp P I next stop o22_3 rest p22_3_8 k env S = bindS next (op1 P (evalV I env) S (.fieldAddr 56 (.tmp 4) 1)) (.inRegion o22_3 rest :: k) (some 14) env) ∧
  (regS P I next stop o22_3 9 rest k env S = guardS P I next stop (env.getD 11 .undef) true o22_3 rest p22_3_9 k env S) ∧
  (doOp P I next stop o22_3 rest p22_3_9 k env S = bindS next (op1 P (evalV I env) S (.load 50 (.tmp 14))) (.inRegion o22_3 rest :: k) (some 15) env) ∧
  (regS P I next stop o22_3 10 rest k env S = guardS P I next stop (env.getD 11 .undef) true o22_3 rest p22_3_10 k env S) ∧
  (doOp P I next stop o22_3 rest p22_3_10 k env S = bindS next (op1 P (evalV I env) S (.load 62 (.tmp 2))) (.inRegion o22_3 rest :: k) (some 16) env) ∧
  (regS P I next stop o22_3 11 rest k env S = guardS P I next stop (env.getD 11 .undef) true o22_3 rest p22_3_11 k env S) ∧
  (doOp P I next stop o22_3 rest p22_3_11 k env S = callS P I stop (evalV I env (.func 21)) [evalV I env (.tmp 13), evalV I env (.tmp 15), evalV I env (.tmp 16)] (.inRegion o22_3 rest :: k) (some 17) env S) ∧
  (regS P I next stop o22_3 12 rest k env S = bindS next (op1 P (evalV I env) S (.pick (.tmp 11) (.tmp 17) (.const (.bool false)))) (.inRegion o22_3 rest :: k) (some 18) env) ∧
  (regS P I next stop o22_3 13 rest k env S = bindS next (op1 P (evalV I env) S (.move (.tmp 18))) (.inRegion o22_3 rest :: k) (some 19) env) ∧
  (regS P I next stop o22_3 14 rest k env S = guardS P I next stop (env.getD 19 .undef) true o22_3 rest p22_3_14 k env S) ∧
  (doOp P I next stop o22_3 rest p22_3_14 k env S = bindS next (op1 P (evalV I env) S (.fieldAddr 56 (.tmp 3) 2)) (.inRegion o22_3 rest :: k) (some 20) env) ∧
  (regS P I next stop o22_3 15 rest k env S = guardS P I next stop (env.getD 19 .undef) true o22_3 rest p22_3_15 k env S) ∧
  (doOp P I next stop o22_3 rest p22_3_15 k env S = bindS next (op1 P (evalV I env) S (.load 32 (.tmp 20))) (.inRegion o22_3 rest :: k) (some 21) env) ∧
  (regS P I next stop o22_3 16 rest k env S = guardS P I next stop (env.getD 19 .undef) true o22_3 rest p22_3_16 k env S) ∧
  (doOp P I next stop o22_3 rest p22_3_16 k env S = bindS next (op1 P (evalV I env) S (.fieldAddr 56 (.tmp 4) 2)) (.inRegion o22_3 rest :: k) (some 22) env) ∧
  (regS P I next stop o22_3 17 rest k env S = guardS P I next stop (env.getD 19 .undef) true o22_3 rest p22_3_17 k env S) ∧
  (doOp P I next stop o22_3 rest p22_3_17 k env S = bindS next (op1 P (evalV I env) S (.load 32 (.tmp 22))) (.inRegion o22_3 rest :: k) (some 23) env) ∧
  (regS P I next stop o22_3 18 rest k env S = guardS P I next stop (env.getD 19 .undef) true o22_3 rest p22_3_18 k env S) ∧
  (doOp P I next stop o22_3 rest p22_3_18 k env S = callS P I stop (evalV I env (.func 23)) [evalV I env (.tmp 21), evalV I env (.tmp 23), evalV I env (.func 19)] (.inRegion o22_3 rest :: k) (some 24) env S) ∧
  (regS P I next stop o22_3 19 rest k env S = bindS next (op1 P (evalV I env) S (.pick (.tmp 19) (.tmp 24) (.const (.bool false)))) (.inRegion o22_3 rest :: k) (some 25) env) ∧
  (regS P I next stop o22_3 20 rest k env S = bindS next (op1 P (evalV I env) S (.move (.tmp 25))) (.inRegion o22_3 rest :: k) (some 26) env) ∧
  (regS P I next stop o22_3 21 rest k env S = guardS P I next stop (env.getD 26 .undef) true o22_3 rest p22_3_21 k env S) ∧
  (doOp P I next stop o22_3 rest p22_3_21 k env S = bindS next (op1 P (evalV I env) S (.fieldAddr 56 (.tmp 3) 3)) (.inRegion o22_3 rest :: k) (some 27) env) ∧
  (regS P I next stop o22_3 22 rest k env S = guardS P I next stop (env.getD 26 .undef) true o22_3 rest p22_3_22 k env S) ∧
  (doOp P I next stop o22_3 rest p22_3_22 k env S = bindS next (op1 P (evalV I env) S (.load 54 (.tmp 27))) (.inRegion o22_3 rest :: k) (some 28) env) ∧
  (regS P I next stop o22_3 23 rest k env S = guardS P I next stop (env.getD 26 .undef) true o22_3 rest p22_3_23 k env S) ∧
  (doOp P I next stop o22_3 rest p22_3_23 k env S = bindS next (op1 P (evalV I env) S (.fieldAddr 56 (.tmp 4) 3)) (.inRegion o22_3 rest :: k) (some 29) env) ∧
  (regS P I next stop o22_3 24 rest k env S = guardS P I next stop (env.getD 26 .undef) true o22_3 rest p22_3_24 k env S) ∧
  (doOp P I next stop o22_3 rest p22_3_24 k env S = bindS next (op1 P (evalV I env) S (.load 54 (.tmp 29))) (.inRegion o22_3 rest :: k) (some 30) env) ∧
  (regS P I next stop o22_3 25 rest k env S = guardS P I next stop (env.getD 26 .undef) true o22_3 rest p22_3_25 k env S) ∧
  (doOp P I next stop o22_3 rest p22_3_25 k env S = callS P I stop (evalV I env (.func 24)) [evalV I env (.tmp 28), evalV I env (.tmp 30), evalV I env (.func 25)] (.inRegion o22_3 rest :: k) (some 31) env S) ∧
  (regS P I next stop o22_3 26 rest k env S = bindS next (op1 P (evalV I env) S (.pick (.tmp 26) (.tmp 31) (.const (.bool false)))) (.inRegion o22_3 rest :: k) (some 32) env) ∧
  (regS P I next stop o22_3 27 rest k env S = bindS next (op1 P (evalV I env) S (.assign (.tmp 32))) (.inRegion o22_3 rest :: k) (some 5) env) := by
  repeat' apply And.intro
  all_goals kernel_rfl
theorem c22t  : (p22_3_6.dst = (some 12)) ∧
  (p22_3_7.dst = (some 13)) ∧
  (p22_3_8.dst = (some 14)) ∧
  (p22_3_9.dst = (some 15)) ∧
  (p22_3_10.dst = (some 16)) ∧
  (p22_3_11.dst = (some 17)) ∧
  (p22_3_14.dst = (some 20)) ∧
  (p22_3_15.dst = (some 21)) ∧
  (p22_3_16.dst = (some 22)) ∧
  (p22_3_17.dst = (some 23)) ∧
  (p22_3_18.dst = (some 24)) ∧
  (p22_3_21.dst = (some 27)) ∧
  (p22_3_22.dst = (some 28)) ∧
  (p22_3_23.dst = (some 29)) ∧
  (p22_3_24.dst = (some 30)) ∧
  (p22_3_25.dst = (some 31)) := by
  repeat' apply And.intro
  all_goals kernel_rfl
set_option linter.defProp false in
/-- All of these. -/
def c22 := And.intro @c22s ( And.intro @c22r (@c22t))
noncomputable def k8_0 : Code := bodyOf Tryd.f8
noncomputable def k8_1 : Code := lft k8_0
noncomputable def o8_1 : Array Oper := opsOf k8_1
noncomputable def k8_2 : Code := rgt k8_0
noncomputable def k8_3 : Code := lft k8_2
noncomputable def o8_3 : Array Oper := opsOf k8_3
noncomputable def k8_4 : Code := rgt k8_2
noncomputable def k8_5 : Code := lft k8_4
noncomputable def o8_5 : Array Oper := opsOf k8_5
noncomputable def k8_6 : Code := rgt k8_4
noncomputable def k8_7 : Code := lft k8_6
noncomputable def o8_7 : Array Oper := opsOf k8_7
noncomputable def k8_8 : Code := rgt k8_6
noncomputable def k8_9 : Code := lft k8_8
noncomputable def o8_9 : Array Oper := opsOf k8_9
noncomputable def p8_9_7 : Oper := opAt o8_9 7
noncomputable def p8_9_8 : Oper := opAt o8_9 8
noncomputable def p8_9_9 : Oper := opAt o8_9 9
noncomputable def p8_9_10 : Oper := opAt o8_9 10
noncomputable def p8_9_11 : Oper := opAt o8_9 11
noncomputable def p8_9_12 : Oper := opAt o8_9 12
noncomputable def k8_10 : Code := rgt k8_8
theorem c8s (I : Inv) (next stop : Cont) (k : List Item) (env : List V) (S : Mem) : (codeS I next stop k8_1 k env S = next (.inRegion o8_1 [0, 1, 2] :: k) env S) ∧
  (codeS I next stop k8_3 k env S = next (.inRegion o8_3 [0, 1] :: k) env S) ∧
  (codeS I next stop k8_5 k env S = next (.inRegion o8_5 [0, 1] :: k) env S) ∧
  (codeS I next stop k8_7 k env S = next (.inRegion o8_7 [0, 1] :: k) env S) ∧
  (codeS I next stop k8_9 k env S = next (.inRegion o8_9 [0, 1, 2, 3, 4, 5, 6, 7, 8, 9, 10, 11, 12, 13, 14] :: k) env S) ∧
  (codeS I next stop k8_10 k env S = stop (.code .ret :: k) env S) ∧
  (codeS I next stop k8_8 k env S = next (.code k8_9 :: .code k8_10 :: k) env S) ∧
  (codeS I next stop k8_6 k env S = next (.code k8_7 :: .code k8_8 :: k) env S) ∧
  (codeS I next stop k8_4 k env S = next (.code k8_5 :: .code k8_6 :: k) env S) ∧
  (codeS I next stop k8_2 k env S = next (.code k8_3 :: .code k8_4 :: k) env S) ∧
  (codeS I next stop k8_0 k env S = next (.code k8_1 :: .code k8_2 :: k) env S) := by
  repeat' apply And.intro
  all_goals kernel_rfl
theorem c8r (P : Program) (I : Inv) (next stop : Cont) (rest : List Nat) (k : List Item) (env : List V) (S : Mem) : (regS P I next stop o8_1 0 rest k env S = bindS next (op1 P (evalV I env) S (.box 25 (.tmp 0))) (.inRegion o8_1 rest :: k) (some 2) env) ∧
  (regS P I next stop o8_1 1 rest k env S = bindS next (op1 P (evalV I env) S (.box 25 (.tmp 1))) (.inRegion o8_1 rest :: k) (some 3) env) ∧
  (regS P I next stop o8_1 2 rest k env S = bindS next (op1 P (evalV I env) S (.assign (.const (.bool false)))) (.inRegion o8_1 rest :: k) (some 4) env) ∧
  (regS P I next stop o8_3 0 rest k env S = bindS next (op1 P (evalV I env) S (.alloc 62)) (.inRegion o8_3 rest :: k) (some 5) env) ∧
  (regS P I next stop o8_3 1 rest k env S = bindS next (op1 P (evalV I env) S (.store 62 (.tmp 5) (.func 18))) (.inRegion o8_3 rest :: k) none env) ∧
  (regS P I next stop o8_5 0 rest k env S = bindS next (op1 P (evalV I env) S (.makeFunc (.func 20) #[] #[.tmp 5])) (.inRegion o8_5 rest :: k) (some 8) env) ∧
  (regS P I next stop o8_5 1 rest k env S = bindS next (op1 P (evalV I env) S (.assign (.tmp 8))) (.inRegion o8_5 rest :: k) (some 6) env) ∧
  (regS P I next stop o8_7 0 rest k env S = bindS next (op1 P (evalV I env) S (.makeFunc (.func 22) #[] #[.tmp 5])) (.inRegion o8_7 rest :: k) (some 9) env) ∧
  (regS P I next stop o8_7 1 rest k env S = bindS next (op1 P (evalV I env) S (.assign (.tmp 9))) (.inRegion o8_7 rest :: k) (some 7) env) ∧
  (regS P I next stop o8_9 0 rest k env S = bindS next (op1 P (evalV I env) S (.fieldAddr 25 (.tmp 2) 0)) (.inRegion o8_9 rest :: k) (some 10) env) ∧
  (regS P I next stop o8_9 1 rest k env S = bindS next (op1 P (evalV I env) S (.load 22 (.tmp 10))) (.inRegion o8_9 rest :: k) (some 11) env) ∧
  (regS P I next stop o8_9 2 rest k env S = bindS next (op1 P (evalV I env) S (.fieldAddr 25 (.tmp 3) 0)) (.inRegion o8_9 rest :: k) (some 12) env) ∧
  (regS P I next stop o8_9 3 rest k env S = bindS next (op1 P (evalV I env) S (.load 22 (.tmp 12))) (.inRegion o8_9 rest :: k) (some 13) env) ∧
  (regS P I next stop o8_9 4 rest k env S = bindS next (op1 P (evalV I env) S (.move (.tmp 6))) (.inRegion o8_9 rest :: k) (some 14) env) ∧
  (regS P I next stop o8_9 5 rest k env S = callS P I stop (evalV I env (.func 26)) [evalV I env (.tmp 11), evalV I env (.tmp 13), evalV I env (.tmp 14)] (.inRegion o8_9 rest :: k) (some 15) env S) ∧
  (regS P I next stop o8_9 6 rest k env S = bindS next (op1 P (evalV I env) S (.move (.tmp 15))) (.inRegion o8_9 rest :: k) (some 16) env) ∧
  (regS P I next stop o8_9 7 rest k env S = guardS P I next stop (env.getD 16 .undef) true o8_9 rest p8_9_7 k env S) ∧
  (doOp P I next stop o8_9 rest p8_9_7 k env S = bindS next (op1 P (evalV I env) S (.fieldAddr 25 (.tmp 2) 1)) (.inRegion o8_9 rest :: k) (some 17) env) ∧
  (regS P I next stop o8_9 8 rest k env S = guardS P I next stop (env.getD 16 .undef) true o8_9 rest p8_9_8 k env S) ∧
  (doOp P I next stop o8_9 rest p8_9_8 k env S = bindS next (op1 P (evalV I env) S (.load 23 (.tmp 17))) (.inRegion o8_9 rest :: k) (some 18) env) ∧
  (regS P I next stop o8_9 9 rest k env S = guardS P I next stop (env.getD 16 .undef) true o8_9 rest p8_9_9 k env S) ∧
  (doOp P I next stop o8_9 rest p8_9_9 k env S = bindS next (op1 P (evalV I env) S (.fieldAddr 25 (.tmp 3) 1)) (.inRegion o8_9 rest :: k) (some 19) env) ∧
  (regS P I next stop o8_9 10 rest k env S = guardS P I next stop (env.getD 16 .undef) true o8_9 rest p8_9_10 k env S) ∧
  (doOp P I next stop o8_9 rest p8_9_10 k env S = bindS next (op1 P (evalV I env) S (.load 23 (.tmp 19))) (.inRegion o8_9 rest :: k) (some 20) env) ∧
  (regS P I next stop o8_9 11 rest k env S = guardS P I next stop (env.getD 16 .undef) true o8_9 rest p8_9_11 k env S) ∧
  (doOp P I next stop o8_9 rest p8_9_11 k env S = bindS next (op1 P (evalV I env) S (.move (.tmp 7))) (.inRegion o8_9 rest :: k) (some 21) env) ∧
  (regS P I next stop o8_9 12 rest k env S = guardS P I next stop (env.getD 16 .undef) true o8_9 rest p8_9_12 k env S) ∧
  (doOp P I next stop o8_9 rest p8_9_12 k env S = callS P I stop (evalV I env (.func 27)) [evalV I env (.tmp 18), evalV I env (.tmp 20), evalV I env (.tmp 21)] (.inRegion o8_9 rest :: k) (some 22) env S) ∧
  (regS P I next stop o8_9 13 rest k env S = bindS next (op1 P (evalV I env) S (.pick (.tmp 16) (.tmp 22) (.const (.bool false)))) (.inRegion o8_9 rest :: k) (some 23) env) ∧
  (regS P I next stop o8_9 14 rest k env S = bindS next (op1 P (evalV I env) S (.assign (.tmp 23))) (.inRegion o8_9 rest :: k) (some 4) env) := by
  repeat' apply And.intro
  all_goals kernel_rfl
theorem c8t  : (p8_9_7.dst = (some 17)) ∧
  (p8_9_8.dst = (some 18)) ∧
  (p8_9_9.dst = (some 19)) ∧
  (p8_9_10.dst = (some 20)) ∧
  (p8_9_11.dst = (some 21)) ∧
  (p8_9_12.dst = (some 22)) := by
  repeat' apply And.intro
  all_goals kernel_rfl
set_option linter.defProp false in
/-- All of these. -/
def c8 := And.intro @c8s ( And.intro @c8r (@c8t))

set_option maxHeartbeats 1000000 in
theorem samePa_ab (x y : PaT) (S : Mem) : AFn Tryd.prog TabI 18 [paV x, paV y] S (Same (.d (.bool (eqPa x y))) S) := by
  refine AFn.same (v := .d (.bool (eqPa x y))) ?_ rfl rfl S
  unfold eqPa
  have hty := sameType_ab x.type y.type
  unfold tyV at hty
  unfold paV
  cases h1 : decide (x.name = y.name)
  · refine AFn.bodyE (body := k18_0) 17 Tryd.func18 (by kernel_rfl) (by kernel_rfl) (by kernel_rfl) (Nat.le_of_ble_eq_true rfl) fun hsm => ?_
    simp only [smL, sm, exV, stV, tyV, caV, paV, suV, fuV, prV, Bool.and_eq_true, decide_eq_true_eq, and_true, true_and, List.length_map, ssD_length] at hsm
    refine ARun.go 200 ?_
    simp -implicitDefEqProofs only [awC, awN, Nat.reduceAdd, Nat.reduceSub, Nat.reduceLT, Nat.reduceLeDiff, Nat.reduceEqDiff, Int.reduceToNat, Int.reduceEq, Int.reduceLT, Int.reduceLE, Int.reduceNeg, Int.reduceAdd, Int.reduceSub, Nat.reduceBEq, awT, c18, tys, h1]
    refine ARun.ret Tryd.func18 rfl (Left.empty ?_)
    exact ⟨rfl, rfl⟩
  refine AFn.bodyE (body := k18_0) 17 Tryd.func18 (by kernel_rfl) (by kernel_rfl) (by kernel_rfl) (Nat.le_of_ble_eq_true rfl) fun hsm => ?_
  simp only [smL, sm, exV, stV, tyV, caV, paV, suV, fuV, prV, Bool.and_eq_true, decide_eq_true_eq, and_true, true_and, List.length_map, ssD_length] at hsm
  refine ARun.go 200 ?_
  simp -implicitDefEqProofs only [awC, awN, Nat.reduceAdd, Nat.reduceSub, Nat.reduceLT, Nat.reduceLeDiff, Nat.reduceEqDiff, Int.reduceToNat, Int.reduceEq, Int.reduceLT, Int.reduceLE, Int.reduceNeg, Int.reduceAdd, Int.reduceSub, Nat.reduceBEq, awT, c18, tys, h1]
  refine callS_fn (hty _) ?_
  rintro _ _ ⟨rfl, rfl⟩
  refine ARun.go 200 ?_
  simp -implicitDefEqProofs only [awC, awN, Nat.reduceAdd, Nat.reduceSub, Nat.reduceLT, Nat.reduceLeDiff, Nat.reduceEqDiff, Int.reduceToNat, Int.reduceEq, Int.reduceLT, Int.reduceLE, Int.reduceNeg, Int.reduceAdd, Int.reduceSub, Nat.reduceBEq, awT, c18, tys]
  refine ARun.ret Tryd.func18 rfl (Left.empty ?_)
  exact ⟨rfl, rfl⟩
set_option maxHeartbeats 1000000 in
theorem sameSu_ab (x y : SuT) (a : Nat) (B : List (List V)) (T : List (Nat × Nat)) (ha : B[a]? = some [.func 18 [] []]) : AFn Tryd.prog TabI 20 [suV x, suV y, .ptr a 0] ⟨B, T⟩ (Same (.d (.bool (eqSu x y))) ⟨B, T⟩) := by
  obtain ⟨N, hn⟩ : ∃ N, B.length = N := ⟨_, rfl⟩
  have hia : a < N := by have := (List.getElem?_eq_some_iff.1 ha).1; omega
  unfold eqSu
  have hpa := fun B T => equalFunc_Param 18 [] [] eqPa x.fields y.fields B T (fun p _ q _ J => samePa_ab p q _)
  unfold suV
  cases h1 : decide (x.name = y.name)
  · refine AFn.bodyE (body := k20_0) 19 Tryd.func20 (by kernel_rfl) (by kernel_rfl) (by kernel_rfl) (Nat.le_of_ble_eq_true rfl) fun hsm => ?_
    simp only [smL, sm, exV, stV, tyV, caV, paV, suV, fuV, prV, Bool.and_eq_true, decide_eq_true_eq, and_true, true_and, List.length_map, ssD_length] at hsm
    refine ARun.go 200 ?_
    simp -implicitDefEqProofs only [awC, awN, Nat.reduceAdd, Nat.reduceSub, Nat.reduceLT, Nat.reduceLeDiff, Nat.reduceEqDiff, Int.reduceToNat, Int.reduceEq, Int.reduceLT, Int.reduceLE, Int.reduceNeg, Int.reduceAdd, Int.reduceSub, Nat.reduceBEq, awT, c20, tys, h1, hn, hia, ha]
    refine ARun.ret Tryd.func20 rfl (Left.box ?_)
    exact ⟨rfl, rfl⟩
  refine AFn.bodyE (body := k20_0) 19 Tryd.func20 (by kernel_rfl) (by kernel_rfl) (by kernel_rfl) (Nat.le_of_ble_eq_true rfl) fun hsm => ?_
  simp only [smL, sm, exV, stV, tyV, caV, paV, suV, fuV, prV, Bool.and_eq_true, decide_eq_true_eq, and_true, true_and, List.length_map, ssD_length] at hsm
  refine ARun.go 200 ?_
  simp -implicitDefEqProofs only [awC, awN, Nat.reduceAdd, Nat.reduceSub, Nat.reduceLT, Nat.reduceLeDiff, Nat.reduceEqDiff, Int.reduceToNat, Int.reduceEq, Int.reduceLT, Int.reduceLE, Int.reduceNeg, Int.reduceAdd, Int.reduceSub, Nat.reduceBEq, awT, c20, tys, h1, hn, hia, ha]
  refine callS_fn (hpa _ _) ?_
  rintro _ _ ⟨rfl, rfl⟩
  refine ARun.go 200 ?_
  simp -implicitDefEqProofs only [awC, awN, Nat.reduceAdd, Nat.reduceSub, Nat.reduceLT, Nat.reduceLeDiff, Nat.reduceEqDiff, Int.reduceToNat, Int.reduceEq, Int.reduceLT, Int.reduceLE, Int.reduceNeg, Int.reduceAdd, Int.reduceSub, Nat.reduceBEq, awT, c20, tys, hn, hia]
  refine ARun.ret Tryd.func20 rfl (Left.box ?_)
  exact ⟨rfl, rfl⟩
set_option maxHeartbeats 1000000 in
theorem sameFu_ab (x y : FuT) (a : Nat) (B : List (List V)) (T : List (Nat × Nat)) (ha : B[a]? = some [.func 18 [] []]) : AFn Tryd.prog TabI 22 [fuV x, fuV y, .ptr a 0] ⟨B, T⟩ (Same (.d (.bool (eqFu x y))) ⟨B, T⟩) := by
  obtain ⟨N, hn⟩ : ∃ N, B.length = N := ⟨_, rfl⟩
  have hia : a < N := by have := (List.getElem?_eq_some_iff.1 ha).1; omega
  unfold eqFu
  have hpa := fun B T => equalFunc_Param 18 [] [] eqPa x.params y.params B T (fun p _ q _ J => samePa_ab p q _)
  have hre := fun B T => equalFunc_Type 19 [] [] eqT x.results y.results B T (fun p _ q _ J => sameType_ab p q _)
  have hbo := fun B T => equalFunc_Stmt 25 [] [] eqSt x.body y.body B T (fun p _ q _ J => sameStmt_ab p q _)
  unfold fuV
  cases h1 : decide (x.name = y.name)
  · refine AFn.bodyE (body := k22_0) 33 Tryd.func22 (by kernel_rfl) (by kernel_rfl) (by kernel_rfl) (Nat.le_of_ble_eq_true rfl) fun hsm => ?_
    simp only [smL, sm, exV, stV, tyV, caV, paV, suV, fuV, prV, Bool.and_eq_true, decide_eq_true_eq, and_true, true_and, List.length_map, ssD_length] at hsm
    refine ARun.go 200 ?_
    simp -implicitDefEqProofs only [awC, awN, Nat.reduceAdd, Nat.reduceSub, Nat.reduceLT, Nat.reduceLeDiff, Nat.reduceEqDiff, Int.reduceToNat, Int.reduceEq, Int.reduceLT, Int.reduceLE, Int.reduceNeg, Int.reduceAdd, Int.reduceSub, Nat.reduceBEq, awT, c22, tys, h1, hn, hia, ha]
    refine ARun.ret Tryd.func22 rfl (Left.box ?_)
    exact ⟨rfl, rfl⟩
  refine AFn.bodyE (body := k22_0) 33 Tryd.func22 (by kernel_rfl) (by kernel_rfl) (by kernel_rfl) (Nat.le_of_ble_eq_true rfl) fun hsm => ?_
  simp only [smL, sm, exV, stV, tyV, caV, paV, suV, fuV, prV, Bool.and_eq_true, decide_eq_true_eq, and_true, true_and, List.length_map, ssD_length] at hsm
  refine ARun.go 200 ?_
  simp -implicitDefEqProofs only [awC, awN, Nat.reduceAdd, Nat.reduceSub, Nat.reduceLT, Nat.reduceLeDiff, Nat.reduceEqDiff, Int.reduceToNat, Int.reduceEq, Int.reduceLT, Int.reduceLE, Int.reduceNeg, Int.reduceAdd, Int.reduceSub, Nat.reduceBEq, awT, c22, tys, h1, hn, hia, ha]
  refine callS_fn (hpa _ _) ?_
  rintro _ _ ⟨rfl, rfl⟩
  cases h2 : eqF eqPa x.params y.params
  · refine ARun.go 200 ?_
    simp -implicitDefEqProofs only [awC, awN, Nat.reduceAdd, Nat.reduceSub, Nat.reduceLT, Nat.reduceLeDiff, Nat.reduceEqDiff, Int.reduceToNat, Int.reduceEq, Int.reduceLT, Int.reduceLE, Int.reduceNeg, Int.reduceAdd, Int.reduceSub, Nat.reduceBEq, awT, c22, tys, hn, hia, h2]
    refine ARun.ret Tryd.func22 rfl (Left.box ?_)
    exact ⟨rfl, rfl⟩
  refine ARun.go 200 ?_
  simp -implicitDefEqProofs only [awC, awN, Nat.reduceAdd, Nat.reduceSub, Nat.reduceLT, Nat.reduceLeDiff, Nat.reduceEqDiff, Int.reduceToNat, Int.reduceEq, Int.reduceLT, Int.reduceLE, Int.reduceNeg, Int.reduceAdd, Int.reduceSub, Nat.reduceBEq, awT, c22, tys, hn, hia, h2]
  refine callS_fn (hre _ _) ?_
  rintro _ _ ⟨rfl, rfl⟩
  cases h3 : eqF eqT x.results y.results
  · refine ARun.go 200 ?_
    simp -implicitDefEqProofs only [awC, awN, Nat.reduceAdd, Nat.reduceSub, Nat.reduceLT, Nat.reduceLeDiff, Nat.reduceEqDiff, Int.reduceToNat, Int.reduceEq, Int.reduceLT, Int.reduceLE, Int.reduceNeg, Int.reduceAdd, Int.reduceSub, Nat.reduceBEq, awT, c22, tys, hn, hia, h3]
    refine ARun.ret Tryd.func22 rfl (Left.box ?_)
    exact ⟨rfl, rfl⟩
  refine ARun.go 200 ?_
  simp -implicitDefEqProofs only [awC, awN, Nat.reduceAdd, Nat.reduceSub, Nat.reduceLT, Nat.reduceLeDiff, Nat.reduceEqDiff, Int.reduceToNat, Int.reduceEq, Int.reduceLT, Int.reduceLE, Int.reduceNeg, Int.reduceAdd, Int.reduceSub, Nat.reduceBEq, awT, c22, tys, hn, hia, h3]
  refine callS_fn (hbo _ _) ?_
  rintro _ _ ⟨rfl, rfl⟩
  refine ARun.go 200 ?_
  simp -implicitDefEqProofs only [awC, awN, Nat.reduceAdd, Nat.reduceSub, Nat.reduceLT, Nat.reduceLeDiff, Nat.reduceEqDiff, Int.reduceToNat, Int.reduceEq, Int.reduceLT, Int.reduceLE, Int.reduceNeg, Int.reduceAdd, Int.reduceSub, Nat.reduceBEq, awT, c22, tys, hn, hia]
  refine ARun.ret Tryd.func22 rfl (Left.box ?_)
  exact ⟨rfl, rfl⟩
set_option maxHeartbeats 1000000 in
theorem same_ab (p q : PrT) (S : Mem) : AFn Tryd.prog TabI 8 [prV p, prV q] S (Same (.d (.bool (eqPr p q))) S) := by
  refine AFn.same (v := .d (.bool (eqPr p q))) ?_ rfl rfl S
  unfold eqPr
  have hsu := fun B T (h : ∀ J, (B ++ J)[2]? = some [.func 18 [] []]) => equalFunc_Struct 20 [] [.ptr 2 0] eqSu p.structs q.structs B T (fun x _ y _ J => sameSu_ab x y 2 _ T (h J))
  have hfu := fun B T (h : ∀ J, (B ++ J)[2]? = some [.func 18 [] []]) => equalFunc_Func 22 [] [.ptr 2 0] eqFu p.funcs q.funcs B T (fun x _ y _ J => sameFu_ab x y 2 _ T (h J))
  unfold prV
  refine AFn.bodyE (body := k8_0) 24 Tryd.func8 (by kernel_rfl) (by kernel_rfl) (by kernel_rfl) (Nat.le_of_ble_eq_true rfl) fun hsm => ?_
  simp only [smL, sm, exV, stV, tyV, caV, paV, suV, fuV, prV, Bool.and_eq_true, decide_eq_true_eq, and_true, true_and, List.length_map, ssD_length] at hsm
  refine ARun.go 200 ?_
  simp -implicitDefEqProofs only [awC, awN, Nat.reduceAdd, Nat.reduceSub, Nat.reduceLT, Nat.reduceLeDiff, Nat.reduceEqDiff, Int.reduceToNat, Int.reduceEq, Int.reduceLT, Int.reduceLE, Int.reduceNeg, Int.reduceAdd, Int.reduceSub, Nat.reduceBEq, awT, c8, tys]
  refine callS_fn (hsu _ _ (fun J => rfl)) ?_
  rintro _ _ ⟨rfl, rfl⟩
  cases h2 : eqF eqSu p.structs q.structs
  · refine ARun.go 200 ?_
    simp -implicitDefEqProofs only [awC, awN, Nat.reduceAdd, Nat.reduceSub, Nat.reduceLT, Nat.reduceLeDiff, Nat.reduceEqDiff, Int.reduceToNat, Int.reduceEq, Int.reduceLT, Int.reduceLE, Int.reduceNeg, Int.reduceAdd, Int.reduceSub, Nat.reduceBEq, awT, c8, tys, h2]
    refine ARun.ret Tryd.func8 rfl (Left.empty ?_)
    exact ⟨rfl, rfl⟩
  refine ARun.go 200 ?_
  simp -implicitDefEqProofs only [awC, awN, Nat.reduceAdd, Nat.reduceSub, Nat.reduceLT, Nat.reduceLeDiff, Nat.reduceEqDiff, Int.reduceToNat, Int.reduceEq, Int.reduceLT, Int.reduceLE, Int.reduceNeg, Int.reduceAdd, Int.reduceSub, Nat.reduceBEq, awT, c8, tys, h2]
  refine callS_fn (hfu _ _ (fun J => rfl)) ?_
  rintro _ _ ⟨rfl, rfl⟩
  refine ARun.go 200 ?_
  simp -implicitDefEqProofs only [awC, awN, Nat.reduceAdd, Nat.reduceSub, Nat.reduceLT, Nat.reduceLeDiff, Nat.reduceEqDiff, Int.reduceToNat, Int.reduceEq, Int.reduceLT, Int.reduceLE, Int.reduceNeg, Int.reduceAdd, Int.reduceSub, Nat.reduceBEq, awT, c8, tys]
  refine ARun.ret Tryd.func8 rfl (Left.empty ?_)
  exact ⟨rfl, rfl⟩
end Go.Proofs.YtombghldgdcjcaaDoor

/- The checker: types. -/
namespace Go.Proofs.YtombghldgdcjcaaDoor
open Go.RowKit Go.Av Go.Ab
set_option linter.unusedSimpArgs false
set_option maxRecDepth 100000

set_option maxHeartbeats 1000000 in
theorem typ_ab0 (k : Int) (n : List UInt8) (es : List TyT) (he : es.length ≠ 1) (c : Nat) (d p : Int) (B : List (List V)) (T : List (Nat × Nat)) (h : B[c]? = some [.d (.int .i64 p)]) (hp : 0 ≤ p ∧ p ≤ 60000) :
    AFn Tryd.prog TabI 39 [.ptr c 0, tyV (.mk k n es), .d (.int .i64 d)] ⟨B, T⟩ (Same (.d (.bool (tyS identS (.mk k n es) d p).1)) ⟨B.set c [.d (.int .i64 (tyS identS (.mk k n es) d p).2)], T⟩) := by
  obtain ⟨N, hn⟩ : ∃ N, B.length = N := ⟨_, rfl⟩
  have hc := (List.getElem?_eq_some_iff.1 h).1
  have hi : c < N := by omega
  have he' : decide ((es.length : Int) = 1) = false := decide_eq_false (by omega)
  have hr := tyRest_no identS k n d p es (.inr he)
  have hne : es ≠ [] ∨ es = [] := by by_cases h : es = [] <;> simp [h]
  simp only [tyV, TyT.kind, TyT.name, TyT.elem]
  refine AFn.body Tryd.func39 rfl (by kernel_rfl) ?_
  refine ARun.go 200 ?_
  simp only [Tryd.f39, awC, awO, Nat.reduceAdd, Nat.reduceSub, Nat.reduceLT, Nat.reduceLeDiff, Nat.reduceEqDiff, Int.reduceToNat, Int.reduceEq, Int.reduceLT, Int.reduceLE, Int.reduceNeg, Int.reduceAdd, Int.reduceSub, Nat.reduceBEq, awT, tys, hn, hi]
  refine callS_fn (part_ab c d p _ _ (by rw [bx_old hc]; exact h) hp) ?_
  rintro _ _ ⟨rfl, rfl⟩
  refine ARun.go 200 ?_
  simp only [awC, awO, Nat.reduceAdd, Nat.reduceSub, Nat.reduceLT, Nat.reduceLeDiff, Nat.reduceEqDiff, Int.reduceToNat, Int.reduceEq, Int.reduceLT, Int.reduceLE, Int.reduceNeg, Int.reduceAdd, Int.reduceSub, Nat.reduceBEq, awT, tys, hn, hi, he']
  cases hk : partOk d p
  · simp only [awC, awO, Nat.reduceAdd, Nat.reduceSub, Nat.reduceLT, Nat.reduceLeDiff, Nat.reduceEqDiff, Int.reduceToNat, Int.reduceEq, Int.reduceLT, Int.reduceLE, Int.reduceNeg, Int.reduceAdd, Int.reduceSub, Nat.reduceBEq, awT, tys, hn, hi, hk, Bool.not_false]
    refine ARun.ret Tryd.func39 rfl (Left.set (by rfl) ?_)
    have hS : tyS identS (.mk k n es) d p = (false, p + 1) := by unfold tyS; rw [if_pos hk]
    rw [hS]
    exact ⟨rfl, rfl⟩
  · have hS := tyS_go identS k n es d p (by rw [hk]; decide)
    rw [hr] at hS
    rw [hS]
    simp only [awC, awO, Nat.reduceAdd, Nat.reduceSub, Nat.reduceLT, Nat.reduceLeDiff, Nat.reduceEqDiff, Int.reduceToNat, Int.reduceEq, Int.reduceLT, Int.reduceLE, Int.reduceNeg, Int.reduceAdd, Int.reduceSub, Nat.reduceBEq, awT, tys, hn, hi, hk, Bool.not_true, he']
    repeat' (first | (refine guardB_of (fun h => ?_) (fun h => ?_) <;> simp only [awC, awO, Nat.reduceAdd, Nat.reduceSub, Nat.reduceLT, Nat.reduceLeDiff, Nat.reduceEqDiff, Int.reduceToNat, Int.reduceEq, Int.reduceLT, Int.reduceLE, Int.reduceNeg, Int.reduceAdd, Int.reduceSub, Nat.reduceBEq, awT, tys, h, hn, hi, he']) | (refine condS_of (fun h => ?_) (fun h => ?_) <;> simp only [awC, awO, Nat.reduceAdd, Nat.reduceSub, Nat.reduceLT, Nat.reduceLeDiff, Nat.reduceEqDiff, Int.reduceToNat, Int.reduceEq, Int.reduceLT, Int.reduceLE, Int.reduceNeg, Int.reduceAdd, Int.reduceSub, Nat.reduceBEq, awT, tys, h, hn, hi, he']))
    all_goals first
      | (refine ARun.ret Tryd.func39 rfl (Left.set (by rfl) ?_)
         (try clear ih)
         (try simp only [decide_eq_true_eq, decide_eq_false_iff_not, Bool.not_eq_true', Bool.not_eq_false'] at *)
         simp only [wk, Same, List.getD_cons_zero, List.getD_cons_succ, envS_get, envS_eval, lk_cons, lk_nil, Nat.reduceBEq, Nat.reduceAdd, Nat.reduceSub, cond_true, cond_false]
         simp [*]
         skip)
      | (skip
         refine callS_fn (ident_ab n _) ?_
         rintro _ _ ⟨rfl, rfl⟩
         refine ARun.go 200 ?_
         simp only [awC, awO, Nat.reduceAdd, Nat.reduceSub, Nat.reduceLT, Nat.reduceLeDiff, Nat.reduceEqDiff, Int.reduceToNat, Int.reduceEq, Int.reduceLT, Int.reduceLE, Int.reduceNeg, Int.reduceAdd, Int.reduceSub, Nat.reduceBEq, awT, tys, hn, hi]
         repeat' (first | (refine guardB_of (fun h => ?_) (fun h => ?_) <;> simp only [awC, awO, Nat.reduceAdd, Nat.reduceSub, Nat.reduceLT, Nat.reduceLeDiff, Nat.reduceEqDiff, Int.reduceToNat, Int.reduceEq, Int.reduceLT, Int.reduceLE, Int.reduceNeg, Int.reduceAdd, Int.reduceSub, Nat.reduceBEq, awT, tys, h, hn, hi]) | (refine condS_of (fun h => ?_) (fun h => ?_) <;> simp only [awC, awO, Nat.reduceAdd, Nat.reduceSub, Nat.reduceLT, Nat.reduceLeDiff, Nat.reduceEqDiff, Int.reduceToNat, Int.reduceEq, Int.reduceLT, Int.reduceLE, Int.reduceNeg, Int.reduceAdd, Int.reduceSub, Nat.reduceBEq, awT, tys, h, hn, hi]))
         all_goals
           refine ARun.ret Tryd.func39 rfl (Left.set (by rfl) ?_)
           (try clear ih)
           (try simp only [decide_eq_true_eq, decide_eq_false_iff_not, Bool.not_eq_true', Bool.not_eq_false'] at *)
           simp only [wk, Same, List.getD_cons_zero, List.getD_cons_succ, envS_get, envS_eval, lk_cons, lk_nil, Nat.reduceBEq, Nat.reduceAdd, Nat.reduceSub, cond_true, cond_false]
           simp [*]
           skip)
set_option maxHeartbeats 2000000 in
theorem typ_ab : ∀ (t : TyT) (c : Nat) (d p : Int) (B : List (List V)) (T : List (Nat × Nat)), B[c]? = some [.d (.int .i64 p)] → 0 ≤ p ∧ p ≤ 60000 → 0 ≤ d ∧ d ≤ 61 →
    AFn Tryd.prog TabI 39 [.ptr c 0, tyV t, .d (.int .i64 d)] ⟨B, T⟩ (Same (.d (.bool (tyS identS t d p).1)) ⟨B.set c [.d (.int .i64 (tyS identS t d p).2)], T⟩)
  | .mk k n [], c, d, p, B, T, h, hp, hd => typ_ab0 k n [] (by simp) c d p B T h hp
  | .mk k n (e :: e2 :: es), c, d, p, B, T, h, hp, hd => typ_ab0 k n _ (by simp) c d p B T h hp
  | .mk k n [e], c, d, p, B, T, h, hp, hd => by
    obtain ⟨N, hn⟩ : ∃ N, B.length = N := ⟨_, rfl⟩
    have hc := (List.getElem?_eq_some_iff.1 h).1
    have hi : c < N := by omega
    have hw := wrap_in (d + 1) (by omega)
    have ih := typ_ab e c (d + 1) (p + 1)
    simp only [tyV, TyT.kind, TyT.name, TyT.elem]
    refine AFn.body Tryd.func39 rfl (by kernel_rfl) ?_
    refine ARun.go 200 ?_
    simp only [Tryd.f39, awC, awO, Nat.reduceAdd, Nat.reduceSub, Nat.reduceLT, Nat.reduceLeDiff, Nat.reduceEqDiff, Int.reduceToNat, Int.reduceEq, Int.reduceLT, Int.reduceLE, Int.reduceNeg, Int.reduceAdd, Int.reduceSub, Nat.reduceBEq, awT, tys, hn, hi, tyD_eq]
    refine callS_fn (part_ab c d p _ _ (by rw [bx_old hc]; exact h) hp) ?_
    rintro _ _ ⟨rfl, rfl⟩
    refine ARun.go 200 ?_
    simp only [awC, awO, Nat.reduceAdd, Nat.reduceSub, Nat.reduceLT, Nat.reduceLeDiff, Nat.reduceEqDiff, Int.reduceToNat, Int.reduceEq, Int.reduceLT, Int.reduceLE, Int.reduceNeg, Int.reduceAdd, Int.reduceSub, Nat.reduceBEq, awT, tys, hn, hi, hw, tyD_eq]
    cases hk : partOk d p
    · simp only [awC, awO, Nat.reduceAdd, Nat.reduceSub, Nat.reduceLT, Nat.reduceLeDiff, Nat.reduceEqDiff, Int.reduceToNat, Int.reduceEq, Int.reduceLT, Int.reduceLE, Int.reduceNeg, Int.reduceAdd, Int.reduceSub, Nat.reduceBEq, awT, tys, hn, hi, hk, Bool.not_false]
      refine ARun.ret Tryd.func39 rfl (Left.set (by rfl) ?_)
      have hS : tyS identS (.mk k n [e]) d p = (false, p + 1) := by unfold tyS; rw [if_pos hk]
      rw [hS]
      exact ⟨rfl, rfl⟩
    · have hS := tyS_go identS k n [e] d p (by rw [hk]; decide)
      have hpo : p + 1 ≤ 60000 ∧ d ≤ 60 := by
        unfold partOk at hk
        rw [Bool.and_eq_true, decide_eq_true_iff, decide_eq_true_iff] at hk
        exact hk
      simp only [tyRest] at hS
      rw [hS]
      simp only [awC, awO, Nat.reduceAdd, Nat.reduceSub, Nat.reduceLT, Nat.reduceLeDiff, Nat.reduceEqDiff, Int.reduceToNat, Int.reduceEq, Int.reduceLT, Int.reduceLE, Int.reduceNeg, Int.reduceAdd, Int.reduceSub, Nat.reduceBEq, awT, tys, hn, hi, hk, Bool.not_true, hw, tyD_eq]
      repeat' (first | (refine guardB_of (fun h => ?_) (fun h => ?_) <;> simp only [awC, awO, Nat.reduceAdd, Nat.reduceSub, Nat.reduceLT, Nat.reduceLeDiff, Nat.reduceEqDiff, Int.reduceToNat, Int.reduceEq, Int.reduceLT, Int.reduceLE, Int.reduceNeg, Int.reduceAdd, Int.reduceSub, Nat.reduceBEq, awT, tys, h, hn, hi, hw, tyD_eq]) | (refine condS_of (fun h => ?_) (fun h => ?_) <;> simp only [awC, awO, Nat.reduceAdd, Nat.reduceSub, Nat.reduceLT, Nat.reduceLeDiff, Nat.reduceEqDiff, Int.reduceToNat, Int.reduceEq, Int.reduceLT, Int.reduceLE, Int.reduceNeg, Int.reduceAdd, Int.reduceSub, Nat.reduceBEq, awT, tys, h, hn, hi, hw, tyD_eq]))
      all_goals first
        | (refine ARun.ret Tryd.func39 rfl (Left.set (by rfl) ?_)
           (try clear ih)
           (try simp only [decide_eq_true_eq, decide_eq_false_iff_not, Bool.not_eq_true', Bool.not_eq_false'] at *)
           simp only [wk, Same, List.getD_cons_zero, List.getD_cons_succ, envS_get, envS_eval, lk_cons, lk_nil, Nat.reduceBEq, Nat.reduceAdd, Nat.reduceSub, cond_true, cond_false]
           simp [*]
           skip)
        | (skip
           refine callS_fn (ident_ab n _) ?_
           rintro _ _ ⟨rfl, rfl⟩
           refine ARun.go 200 ?_
           simp only [awC, awO, Nat.reduceAdd, Nat.reduceSub, Nat.reduceLT, Nat.reduceLeDiff, Nat.reduceEqDiff, Int.reduceToNat, Int.reduceEq, Int.reduceLT, Int.reduceLE, Int.reduceNeg, Int.reduceAdd, Int.reduceSub, Nat.reduceBEq, awT, tys, hn, hi]
           repeat' (first | (refine guardB_of (fun h => ?_) (fun h => ?_) <;> simp only [awC, awO, Nat.reduceAdd, Nat.reduceSub, Nat.reduceLT, Nat.reduceLeDiff, Nat.reduceEqDiff, Int.reduceToNat, Int.reduceEq, Int.reduceLT, Int.reduceLE, Int.reduceNeg, Int.reduceAdd, Int.reduceSub, Nat.reduceBEq, awT, tys, h, hn, hi]) | (refine condS_of (fun h => ?_) (fun h => ?_) <;> simp only [awC, awO, Nat.reduceAdd, Nat.reduceSub, Nat.reduceLT, Nat.reduceLeDiff, Nat.reduceEqDiff, Int.reduceToNat, Int.reduceEq, Int.reduceLT, Int.reduceLE, Int.reduceNeg, Int.reduceAdd, Int.reduceSub, Nat.reduceBEq, awT, tys, h, hn, hi]))
           all_goals
             refine ARun.ret Tryd.func39 rfl (Left.set (by rfl) ?_)
             (try clear ih)
             (try simp only [decide_eq_true_eq, decide_eq_false_iff_not, Bool.not_eq_true', Bool.not_eq_false'] at *)
             simp only [wk, Same, List.getD_cons_zero, List.getD_cons_succ, envS_get, envS_eval, lk_cons, lk_nil, Nat.reduceBEq, Nat.reduceAdd, Nat.reduceSub, cond_true, cond_false]
             simp [*]
             skip)
        | (skip
           refine callS_fn (ih _ T ?_ (by omega) (by omega)) ?_
           · rw [bx_old (by simp; omega)]; exact bx_get hc
           rintro _ _ ⟨rfl, rfl⟩
           refine ARun.go 200 ?_
           simp only [awC, awO, Nat.reduceAdd, Nat.reduceSub, Nat.reduceLT, Nat.reduceLeDiff, Nat.reduceEqDiff, Int.reduceToNat, Int.reduceEq, Int.reduceLT, Int.reduceLE, Int.reduceNeg, Int.reduceAdd, Int.reduceSub, Nat.reduceBEq, awT, tys, hn, hi]
           repeat' (first | (refine guardB_of (fun h => ?_) (fun h => ?_) <;> simp only [awC, awO, Nat.reduceAdd, Nat.reduceSub, Nat.reduceLT, Nat.reduceLeDiff, Nat.reduceEqDiff, Int.reduceToNat, Int.reduceEq, Int.reduceLT, Int.reduceLE, Int.reduceNeg, Int.reduceAdd, Int.reduceSub, Nat.reduceBEq, awT, tys, h, hn, hi]) | (refine condS_of (fun h => ?_) (fun h => ?_) <;> simp only [awC, awO, Nat.reduceAdd, Nat.reduceSub, Nat.reduceLT, Nat.reduceLeDiff, Nat.reduceEqDiff, Int.reduceToNat, Int.reduceEq, Int.reduceLT, Int.reduceLE, Int.reduceNeg, Int.reduceAdd, Int.reduceSub, Nat.reduceBEq, awT, tys, h, hn, hi]))
           all_goals
             refine ARun.ret Tryd.func39 rfl (Left.set (by rfl) ?_)
             (try clear ih)
             (try simp only [decide_eq_true_eq, decide_eq_false_iff_not, Bool.not_eq_true', Bool.not_eq_false'] at *)
             simp only [wk, Same, List.getD_cons_zero, List.getD_cons_succ, envS_get, envS_eval, lk_cons, lk_nil, Nat.reduceBEq, Nat.reduceAdd, Nat.reduceSub, cond_true, cond_false]
             simp [*]
             skip)
end Go.Proofs.YtombghldgdcjcaaDoor

/- The checker: nothing but what the kind has. -/
namespace Go.Proofs.YtombghldgdcjcaaDoor
open Go.RowKit Go.Av Go.Ab
set_option linter.unusedSimpArgs false
set_option maxRecDepth 100000

set_option maxHeartbeats 4000000 in
theorem bare_ab (x : ExT) (c : Nat) (d p : Int) (B : List (List V)) (T : List (Nat × Nat)) (hB : B[c]? = some [.d (.int .i64 p)]) (hp : 0 ≤ p ∧ p ≤ 60000) (hd : 0 ≤ d ∧ d ≤ 60) :
    AFn Tryd.prog TabI 46 [.ptr c 0, exV x, .d (.int .i64 d)] ⟨B, T⟩ (Same (.d (.bool (bareS x d p).1)) ⟨B.set c [.d (.int .i64 (bareS x d p).2)], T⟩) := by
  obtain ⟨N, hn⟩ : ∃ N, B.length = N := ⟨_, rfl⟩
  have hc := (List.getElem?_eq_some_iff.1 hB).1
  have hi : c < N := by omega
  have hw := wrap_in (d + 1) (by omega)
  cases x with
  | mk k t i ty ns ks =>
  simp only [exV, ExT.kind, ExT.text, ExT.int, ExT.type, ExT.names, ExT.kids]
  refine AFn.bodyS Tryd.func46 rfl (by kernel_rfl) fun hsm => ?_
  simp only [smL, sm, exV, stV, tyV, caV, paV, suV, fuV, prV, Bool.and_eq_true, decide_eq_true_eq, and_true, true_and, List.length_map, ssD_length] at hsm
  refine ARun.go 200 ?_
  simp only [Tryd.f46, awC, awO, Nat.reduceAdd, Nat.reduceSub, Nat.reduceLT, Nat.reduceLeDiff, Nat.reduceEqDiff, Int.reduceToNat, Int.reduceEq, Int.reduceLT, Int.reduceLE, Int.reduceNeg, Int.reduceAdd, Int.reduceSub, Nat.reduceBEq, awT, tys, hn, hi]
  obtain ⟨bn, hz2⟩ : ∃ b, ∀ q : Decidable (0 < ns.length), @decide (0 < ns.length) q = b := ⟨decide (0 < ns.length), fun _ => decide_eq_decide.2 Iff.rfl⟩
  have hz : decide ((0 : Int) < (ns.length : Int)) = bn := (decide_eq_decide.2 (by omega)).trans (hz2 inferInstance)
  obtain ⟨-, -, -, hs4, -⟩ := hsm
  obtain ⟨bl, hz3⟩ : ∃ b, ∀ q : Decidable (ns.length = ks.length), @decide (ns.length = ks.length) q = b := ⟨decide (ns.length = ks.length), fun _ => decide_eq_decide.2 Iff.rfl⟩
  have hz4 : decide ((ns.length : Int) = (ks.length : Int)) = bl := (decide_eq_decide.2 (by omega)).trans (hz3 inferInstance)
  refine ARun.draw (by kernel_rfl) (by kernel_rfl) (lexQ_ok 60 _ _ ?_)
  simp only [awC, awO, Nat.reduceAdd, Nat.reduceSub, Nat.reduceLT, Nat.reduceLeDiff, Nat.reduceEqDiff, Int.reduceToNat, Int.reduceEq, Int.reduceLT, Int.reduceLE, Int.reduceNeg, Int.reduceAdd, Int.reduceSub, Nat.reduceBEq, awT, tys, hn, hi, hz]
  refine ⟨_, zero_ab ty _ _, ?_⟩
  simp only [awC, awO, Nat.reduceAdd, Nat.reduceSub, Nat.reduceLT, Nat.reduceLeDiff, Nat.reduceEqDiff, Int.reduceToNat, Int.reduceEq, Int.reduceLT, Int.reduceLE, Int.reduceNeg, Int.reduceAdd, Int.reduceSub, Nat.reduceBEq, awT, tys, hn, hi, hz]
  have hbs : B.set c [.d (.int .i64 p)] = B := by
    obtain ⟨_, h⟩ := List.getElem?_eq_some_iff.1 hB
    rw [← h, List.set_getElem_self]
  refine ARun.go 400 ?_
  simp only [awC, awO, Nat.reduceAdd, Nat.reduceSub, Nat.reduceLT, Nat.reduceLeDiff, Nat.reduceEqDiff, Int.reduceToNat, Int.reduceEq, Int.reduceLT, Int.reduceLE, Int.reduceNeg, Int.reduceAdd, Int.reduceSub, Nat.reduceBEq, awT, tys, hn, hi, hw, hz]
  repeat' (first | (refine guardB_of (fun h => ?_) (fun h => ?_) <;> simp only [awC, awO, Nat.reduceAdd, Nat.reduceSub, Nat.reduceLT, Nat.reduceLeDiff, Nat.reduceEqDiff, Int.reduceToNat, Int.reduceEq, Int.reduceLT, Int.reduceLE, Int.reduceNeg, Int.reduceAdd, Int.reduceSub, Nat.reduceBEq, awT, tys, h, hn, hi, hw]) | (refine condS_of (fun h => ?_) (fun h => ?_) <;> simp only [awC, awO, Nat.reduceAdd, Nat.reduceSub, Nat.reduceLT, Nat.reduceLeDiff, Nat.reduceEqDiff, Int.reduceToNat, Int.reduceEq, Int.reduceLT, Int.reduceLE, Int.reduceNeg, Int.reduceAdd, Int.reduceSub, Nat.reduceBEq, awT, tys, h, hn, hi, hw]))
  all_goals first
    | (skip
       refine callS_fn (ident_ab _ _) ?_
       rintro _ _ ⟨rfl, rfl⟩
       refine ARun.go 200 ?_
       simp only [awC, awO, Nat.reduceAdd, Nat.reduceSub, Nat.reduceLT, Nat.reduceLeDiff, Nat.reduceEqDiff, Int.reduceToNat, Int.reduceEq, Int.reduceLT, Int.reduceLE, Int.reduceNeg, Int.reduceAdd, Int.reduceSub, Nat.reduceBEq, awT, tys, hn, hi]
       repeat' (first | (refine guardB_of (fun h => ?_) (fun h => ?_) <;> simp only [awC, awO, Nat.reduceAdd, Nat.reduceSub, Nat.reduceLT, Nat.reduceLeDiff, Nat.reduceEqDiff, Int.reduceToNat, Int.reduceEq, Int.reduceLT, Int.reduceLE, Int.reduceNeg, Int.reduceAdd, Int.reduceSub, Nat.reduceBEq, awT, tys, h, hn, hi]) | (refine condS_of (fun h => ?_) (fun h => ?_) <;> simp only [awC, awO, Nat.reduceAdd, Nat.reduceSub, Nat.reduceLT, Nat.reduceLeDiff, Nat.reduceEqDiff, Int.reduceToNat, Int.reduceEq, Int.reduceLT, Int.reduceLE, Int.reduceNeg, Int.reduceAdd, Int.reduceSub, Nat.reduceBEq, awT, tys, h, hn, hi]))
       all_goals
         refine ARun.ret Tryd.func46 rfl (Left.box ?_)
         simp only [bareS, bareT, ExT.kind, ExT.text, ExT.int, ExT.type, ExT.names, ExT.kids, hz2]
         (try clear ih)
         (try simp only [decide_eq_true_eq, decide_eq_false_iff_not, Bool.not_eq_true', Bool.not_eq_false'] at *)
         simp only [wk, Same, List.getD_cons_zero, List.getD_cons_succ, envS_get, envS_eval, lk_cons, lk_nil, Nat.reduceBEq, Nat.reduceAdd, Nat.reduceSub, cond_true, cond_false]
         simp [*]
         (try exact (hz2 _).symm)
         skip)
    | (skip
       refine callS_fn (rank_ab _ _ _) ?_
       rintro _ _ ⟨rfl, rfl⟩
       refine ARun.go 200 ?_
       simp only [awC, awO, Nat.reduceAdd, Nat.reduceSub, Nat.reduceLT, Nat.reduceLeDiff, Nat.reduceEqDiff, Int.reduceToNat, Int.reduceEq, Int.reduceLT, Int.reduceLE, Int.reduceNeg, Int.reduceAdd, Int.reduceSub, Nat.reduceBEq, awT, tys, hn, hi]
       repeat' (first | (refine guardB_of (fun h => ?_) (fun h => ?_) <;> simp only [awC, awO, Nat.reduceAdd, Nat.reduceSub, Nat.reduceLT, Nat.reduceLeDiff, Nat.reduceEqDiff, Int.reduceToNat, Int.reduceEq, Int.reduceLT, Int.reduceLE, Int.reduceNeg, Int.reduceAdd, Int.reduceSub, Nat.reduceBEq, awT, tys, h, hn, hi]) | (refine condS_of (fun h => ?_) (fun h => ?_) <;> simp only [awC, awO, Nat.reduceAdd, Nat.reduceSub, Nat.reduceLT, Nat.reduceLeDiff, Nat.reduceEqDiff, Int.reduceToNat, Int.reduceEq, Int.reduceLT, Int.reduceLE, Int.reduceNeg, Int.reduceAdd, Int.reduceSub, Nat.reduceBEq, awT, tys, h, hn, hi]))
       all_goals
         refine ARun.ret Tryd.func46 rfl (Left.box ?_)
         simp only [bareS, bareT, ExT.kind, ExT.text, ExT.int, ExT.type, ExT.names, ExT.kids, hz2]
         (try clear ih)
         (try simp only [decide_eq_true_eq, decide_eq_false_iff_not, Bool.not_eq_true', Bool.not_eq_false'] at *)
         simp only [wk, Same, List.getD_cons_zero, List.getD_cons_succ, envS_get, envS_eval, lk_cons, lk_nil, Nat.reduceBEq, Nat.reduceAdd, Nat.reduceSub, cond_true, cond_false]
         simp [*]
         (try exact (hz2 _).symm)
         skip)
    | (skip
       refine ARun.draw (by kernel_rfl) (by kernel_rfl) (lexQ_ok 60 _ _ ?_)
       simp only [awC, awO, Nat.reduceAdd, Nat.reduceSub, Nat.reduceLT, Nat.reduceLeDiff, Nat.reduceEqDiff, Int.reduceToNat, Int.reduceEq, Int.reduceLT, Int.reduceLE, Int.reduceNeg, Int.reduceAdd, Int.reduceSub, Nat.reduceBEq, awT, tys, hn, hi]
       refine ARun.go 200 ?_
       simp only [awC, awO, Nat.reduceAdd, Nat.reduceSub, Nat.reduceLT, Nat.reduceLeDiff, Nat.reduceEqDiff, Int.reduceToNat, Int.reduceEq, Int.reduceLT, Int.reduceLE, Int.reduceNeg, Int.reduceAdd, Int.reduceSub, Nat.reduceBEq, awT, tys, hn, hi]
       repeat' (first | (refine guardB_of (fun h => ?_) (fun h => ?_) <;> simp only [awC, awO, Nat.reduceAdd, Nat.reduceSub, Nat.reduceLT, Nat.reduceLeDiff, Nat.reduceEqDiff, Int.reduceToNat, Int.reduceEq, Int.reduceLT, Int.reduceLE, Int.reduceNeg, Int.reduceAdd, Int.reduceSub, Nat.reduceBEq, awT, tys, h, hn, hi]) | (refine condS_of (fun h => ?_) (fun h => ?_) <;> simp only [awC, awO, Nat.reduceAdd, Nat.reduceSub, Nat.reduceLT, Nat.reduceLeDiff, Nat.reduceEqDiff, Int.reduceToNat, Int.reduceEq, Int.reduceLT, Int.reduceLE, Int.reduceNeg, Int.reduceAdd, Int.reduceSub, Nat.reduceBEq, awT, tys, h, hn, hi]))
       all_goals
         refine ARun.ret Tryd.func46 rfl (Left.box ?_)
         simp only [bareS, bareT, ExT.kind, ExT.text, ExT.int, ExT.type, ExT.names, ExT.kids, hz2]
         (try clear ih)
         (try simp only [decide_eq_true_eq, decide_eq_false_iff_not, Bool.not_eq_true', Bool.not_eq_false'] at *)
         simp only [wk, Same, List.getD_cons_zero, List.getD_cons_succ, envS_get, envS_eval, lk_cons, lk_nil, Nat.reduceBEq, Nat.reduceAdd, Nat.reduceSub, cond_true, cond_false]
         simp [*]
         (try exact (hz2 _).symm)
         skip)
    | (refine ARun.ret Tryd.func46 rfl (Left.box ?_)
       simp only [bareS, bareT, ExT.kind, ExT.text, ExT.int, ExT.type, ExT.names, ExT.kids, hz2]
       (try clear ih)
       (try simp only [decide_eq_true_eq, decide_eq_false_iff_not, Bool.not_eq_true', Bool.not_eq_false'] at *)
       simp only [wk, Same, List.getD_cons_zero, List.getD_cons_succ, envS_get, envS_eval, lk_cons, lk_nil, Nat.reduceBEq, Nat.reduceAdd, Nat.reduceSub, cond_true, cond_false]
       simp [*]
       (try exact (hz2 _).symm)
       skip)
    | (refine callS_fn (typ_ab ty c (d + 1) p _ T (by rw [bx_old (by omega)]; exact hB) hp (by omega)) ?_
       rintro _ _ ⟨rfl, rfl⟩
       obtain ⟨⟨b, q⟩, hty⟩ : ∃ r, tyS identS ty (d + 1) p = r := ⟨_, rfl⟩
       simp only [awC, awO, Nat.reduceAdd, Nat.reduceSub, Nat.reduceLT, Nat.reduceLeDiff, Nat.reduceEqDiff, Int.reduceToNat, Int.reduceEq, Int.reduceLT, Int.reduceLE, Int.reduceNeg, Int.reduceAdd, Int.reduceSub, Nat.reduceBEq, awT, tys, hty]
       refine ARun.go 300 ?_
       simp only [awC, awO, Nat.reduceAdd, Nat.reduceSub, Nat.reduceLT, Nat.reduceLeDiff, Nat.reduceEqDiff, Int.reduceToNat, Int.reduceEq, Int.reduceLT, Int.reduceLE, Int.reduceNeg, Int.reduceAdd, Int.reduceSub, Nat.reduceBEq, awT, tys, hn, hi, hz4]
       repeat' (first | (refine guardB_of (fun h => ?_) (fun h => ?_) <;> simp only [awC, awO, Nat.reduceAdd, Nat.reduceSub, Nat.reduceLT, Nat.reduceLeDiff, Nat.reduceEqDiff, Int.reduceToNat, Int.reduceEq, Int.reduceLT, Int.reduceLE, Int.reduceNeg, Int.reduceAdd, Int.reduceSub, Nat.reduceBEq, awT, tys, h, hn, hi, hz4]) | (refine condS_of (fun h => ?_) (fun h => ?_) <;> simp only [awC, awO, Nat.reduceAdd, Nat.reduceSub, Nat.reduceLT, Nat.reduceLeDiff, Nat.reduceEqDiff, Int.reduceToNat, Int.reduceEq, Int.reduceLT, Int.reduceLE, Int.reduceNeg, Int.reduceAdd, Int.reduceSub, Nat.reduceBEq, awT, tys, h, hn, hi, hz4]))
       all_goals first
         | (refine ARun.ret Tryd.func46 rfl (Left.set (by rfl) ?_)
            simp only [bareS, bareT, ExT.kind, ExT.text, ExT.int, ExT.type, ExT.names, ExT.kids, hz2, hz3, hty]
            (try clear ih)
            (try simp only [decide_eq_true_eq, decide_eq_false_iff_not, Bool.not_eq_true', Bool.not_eq_false'] at *)
            simp only [wk, Same, List.getD_cons_zero, List.getD_cons_succ, envS_get, envS_eval, lk_cons, lk_nil, Nat.reduceBEq, Nat.reduceAdd, Nat.reduceSub, cond_true, cond_false]
            simp [*]
            (try exact (hz2 _).symm)
            (try (intro e; have e2 := (hz3 _).symm.trans e; simp_all))
            skip)
         | (skip
            refine callS_fn (different_ab ns hs4 _ _) ?_
            rintro _ _ ⟨rfl, rfl⟩
            refine ARun.go 300 ?_
            simp only [awC, awO, Nat.reduceAdd, Nat.reduceSub, Nat.reduceLT, Nat.reduceLeDiff, Nat.reduceEqDiff, Int.reduceToNat, Int.reduceEq, Int.reduceLT, Int.reduceLE, Int.reduceNeg, Int.reduceAdd, Int.reduceSub, Nat.reduceBEq, awT, tys, hn, hi, hz4]
            repeat' (first | (refine guardB_of (fun h => ?_) (fun h => ?_) <;> simp only [awC, awO, Nat.reduceAdd, Nat.reduceSub, Nat.reduceLT, Nat.reduceLeDiff, Nat.reduceEqDiff, Int.reduceToNat, Int.reduceEq, Int.reduceLT, Int.reduceLE, Int.reduceNeg, Int.reduceAdd, Int.reduceSub, Nat.reduceBEq, awT, tys, h, hn, hi, hz4]) | (refine condS_of (fun h => ?_) (fun h => ?_) <;> simp only [awC, awO, Nat.reduceAdd, Nat.reduceSub, Nat.reduceLT, Nat.reduceLeDiff, Nat.reduceEqDiff, Int.reduceToNat, Int.reduceEq, Int.reduceLT, Int.reduceLE, Int.reduceNeg, Int.reduceAdd, Int.reduceSub, Nat.reduceBEq, awT, tys, h, hn, hi, hz4]))
            all_goals
              refine ARun.ret Tryd.func46 rfl (Left.set (by rfl) ?_)
              simp only [bareS, bareT, ExT.kind, ExT.text, ExT.int, ExT.type, ExT.names, ExT.kids, hz2, hz3, hty]
              (try clear ih)
              (try simp only [decide_eq_true_eq, decide_eq_false_iff_not, Bool.not_eq_true', Bool.not_eq_false'] at *)
              simp only [wk, Same, List.getD_cons_zero, List.getD_cons_succ, envS_get, envS_eval, lk_cons, lk_nil, Nat.reduceBEq, Nat.reduceAdd, Nat.reduceSub, cond_true, cond_false]
              simp [*]
              (try exact (hz2 _).symm)
              (try exact (hz3 _).trans (by assumption))
              (try (intro e; have e2 := (hz3 _).symm.trans e; simp_all))
              skip))
end Go.Proofs.YtombghldgdcjcaaDoor

/- The checker: expressions. -/
namespace Go.Proofs.YtombghldgdcjcaaDoor
open Go.RowKit Go.Av Go.Ab
set_option linter.unusedSimpArgs false
set_option maxRecDepth 100000

def ExprOk (x : ExT) : Prop := ∀ (c : Nat) (d p : Int) (B : List (List V)) (T : List (Nat × Nat)), B[c]? = some [.d (.int .i64 p)] → 0 ≤ p ∧ p ≤ 60000 → 0 ≤ d ∧ d ≤ 61 →
    AFn Tryd.prog TabI 28 [.ptr c 0, exV x, .d (.int .i64 d)] ⟨B, T⟩ (Same (.d (.bool (exS x d p).1)) ⟨B.set c [.d (.int .i64 (exS x d p).2)], T⟩)
set_option maxHeartbeats 2000000 in
theorem exprs_ab (l : List ExT) (hx : ∀ x ∈ l, ExprOk x) (c : Nat) (d m p : Int) (B : List (List V)) (T : List (Nat × Nat)) (hB : B[c]? = some [.d (.int .i64 p)]) (hp : 0 ≤ p ∧ p ≤ 60000) (hd : 0 ≤ d ∧ d ≤ 61) :
    AFn Tryd.prog TabI 47 [.ptr c 0, .d (.sl (l.map exD)), .d (.int .i64 d), .d (.int .i64 m)] ⟨B, T⟩ (Same (.d (.bool ((exsS l d p).1 && decide ((l.length : Int) ≤ m)))) ⟨B.set c [.d (.int .i64 (exsS l d p).2)], T⟩) := by
  obtain ⟨N, hn⟩ : ∃ N, B.length = N := ⟨_, rfl⟩
  have hc := (List.getElem?_eq_some_iff.1 hB).1
  have hi : c < N := by omega
  have hbs : B.set c [.d (.int .i64 p)] = B := by
    obtain ⟨_, h⟩ := List.getElem?_eq_some_iff.1 hB
    rw [← h, List.set_getElem_self]
  refine AFn.bodyS Tryd.func47 rfl (by kernel_rfl) fun hsm => ?_
  simp only [smL, sm, exV, stV, tyV, caV, paV, suV, fuV, prV, Bool.and_eq_true, decide_eq_true_eq, and_true, true_and, List.length_map, ssD_length] at hsm
  refine ARun.go 100 ?_
  simp only [Tryd.f47, awC, awO, Nat.reduceAdd, Nat.reduceSub, Nat.reduceLT, Nat.reduceLeDiff, Nat.reduceEqDiff, Int.reduceToNat, Int.reduceEq, Int.reduceLT, Int.reduceLE, Int.reduceNeg, Int.reduceAdd, Int.reduceSub, Nat.reduceBEq, awT, tys, hn, hi]
  refine ARun.fits fun hf => ?_
  refine ARun.loopB (fun a : Nat × Int => (envOf 30 [(0, .ptr c 0), (1, .d (.sl (l.map exD))), (2, .d (.int .i64 d)), (3, .d (.int .i64 m)), (8, .d (.bool false)), (9, .func 28 [.ptr c 0] []), (14, .d (.sl (l.map exD))), (15, .d (.int .i64 l.length)), (16, .d (.int .i64 a.1))], ⟨B.set c [.d (.int .i64 a.2)], T⟩)) (fun a => a.1 ≤ l.length ∧ (0 ≤ a.2 ∧ a.2 ≤ 60000) ∧ exsS l d p = exsS (l.drop a.1) d a.2) (fun a => l.length - a.1) (0, p) ⟨by omega, hp, rfl⟩ ?_ (by rw [hbs]) ?_
  · simp only [envOf, List.replicate_succ, List.replicate_zero, List.foldl_cons, List.foldl_nil, List.set_cons_zero, List.set_cons_succ, EnvW, eq_self, or_true, true_or, and_self, Int.natCast_add, Int.natCast_one, Int.natCast_zero]
  rintro ⟨i, q⟩ ⟨h1, h2, h3⟩ ih
  dsimp only at h1 h2 h3 ih ⊢
  by_cases hlt : i < l.length
  · have hw := wrap_in ((i : Int) + 1) (by omega)
    have hg := List.getElem?_eq_getElem hlt
    rw [exsS_step l i hlt] at h3
    have hlt' : decide ((i : Int) < (l.length : Int)) = true := decide_eq_true (by omega)
    refine ARun.go 100 ?_
    simp only [awC, awO, Nat.reduceAdd, Nat.reduceSub, Nat.reduceLT, Nat.reduceLeDiff, Nat.reduceEqDiff, Int.reduceToNat, Int.reduceEq, Int.reduceLT, Int.reduceLE, Int.reduceNeg, Int.reduceAdd, Int.reduceSub, Nat.reduceBEq, awT, tys, hn, hi, List.getElem?_map, hg, hlt', exD_eq]
    refine callS_of (hx l[i] (List.getElem_mem hlt) c d q _ T (by rw [bx_old (by simp; omega)]; exact bx_get hc) h2 hd) ?_
    rintro _ _ ⟨rfl, rfl⟩
    have hok := exS_ok l[i] d q
    obtain ⟨⟨b, r⟩, he⟩ : ∃ r, exS l[i] d q = r := ⟨_, rfl⟩
    rw [he] at h3 hok
    dsimp only at hok
    refine ARun.go 100 ?_
    simp only [awC, awO, Nat.reduceAdd, Nat.reduceSub, Nat.reduceLT, Nat.reduceLeDiff, Nat.reduceEqDiff, Int.reduceToNat, Int.reduceEq, Int.reduceLT, Int.reduceLE, Int.reduceNeg, Int.reduceAdd, Int.reduceSub, Nat.reduceBEq, awT, tys, hn, hi, he]
    cases b
    · simp only [awC, awO, Nat.reduceAdd, Nat.reduceSub, Nat.reduceLT, Nat.reduceLeDiff, Nat.reduceEqDiff, Int.reduceToNat, Int.reduceEq, Int.reduceLT, Int.reduceLE, Int.reduceNeg, Int.reduceAdd, Int.reduceSub, Nat.reduceBEq, awT, tys, hn, hi]
      refine ARun.ret Tryd.func47 rfl (Left.set (by rfl) ?_)
      rw [h3, if_pos rfl]
      exact ⟨rfl, rfl⟩
    · have hok := hok rfl
      simp only [awC, awO, Nat.reduceAdd, Nat.reduceSub, Nat.reduceLT, Nat.reduceLeDiff, Nat.reduceEqDiff, Int.reduceToNat, Int.reduceEq, Int.reduceLT, Int.reduceLE, Int.reduceNeg, Int.reduceAdd, Int.reduceSub, Nat.reduceBEq, awT, tys, hn, hi, hw]
      refine ih (i + 1, r) ⟨hlt, by dsimp only; omega, by rw [h3]; rfl⟩ (by dsimp only; omega) _ _ _ _ rfl ⟨by simp; omega, Nat.le_refl _⟩ (hf.set rfl) ?_
      simp only [envOf, List.replicate_succ, List.replicate_zero, List.foldl_cons, List.foldl_nil, List.set_cons_zero, List.set_cons_succ, EnvLe, fit, fitL, eq_self, or_true, true_or, and_self, true_and, and_true, Bool.and_true, Bool.true_and, Bool.and_self, decide_true, List.length_set, Int.natCast_add, Int.natCast_one, Int.natCast_zero, hn, hi]
  · have hlt' : decide ((i : Int) < (l.length : Int)) = false := decide_eq_false (by omega)
    refine ARun.go 100 ?_
    simp only [awC, awO, Nat.reduceAdd, Nat.reduceSub, Nat.reduceLT, Nat.reduceLeDiff, Nat.reduceEqDiff, Int.reduceToNat, Int.reduceEq, Int.reduceLT, Int.reduceLE, Int.reduceNeg, Int.reduceAdd, Int.reduceSub, Nat.reduceBEq, awT, tys, hlt']
    refine ARun.ret Tryd.func47 rfl (Left.set0 rfl ?_)
    rw [List.drop_eq_nil_of_le (by omega), exsS] at h3
    rw [h3]
    exact ⟨rfl, rfl⟩
theorem partOk_in {d p : Int} (h : partOk d p = true) : p + 1 ≤ 60000 ∧ d ≤ 60 := by
  unfold partOk at h
  rw [Bool.and_eq_true, decide_eq_true_iff, decide_eq_true_iff] at h
  exact h
set_option maxHeartbeats 4000000 in
theorem expr_step (k : Int) (t : List UInt8) (i : Int) (ty : TyT) (ns : List (List UInt8)) (ks : List ExT) (hx : ∀ x ∈ ks, ExprOk x) : ExprOk (.mk k t i ty ns ks) := by
  intro c d p B T hB hp hd
  obtain ⟨N, hn⟩ : ∃ N, B.length = N := ⟨_, rfl⟩
  have hc := (List.getElem?_eq_some_iff.1 hB).1
  have hi : c < N := by omega
  have hw := wrap_in (d + 1) (by omega)
  obtain ⟨mo, hmo⟩ : ∃ m, manyS k = m := ⟨_, rfl⟩
  have hS : exS (.mk k t i ty ns ks) d p = if partOk d p = false then (false, p + 1)
    else if mostS k < (ks.length : Int) ∨ mo = -2 ∨ (0 ≤ mo ∧ (ks.length : Int) ≠ mo) then (false, p + 1)
    else if (bareS (.mk k t i ty ns ks) d (p + 1)).1 = false then (false, (bareS (.mk k t i ty ns ks) d (p + 1)).2)
    else exsS ks (d + 1) (bareS (.mk k t i ty ns ks) d (p + 1)).2 := by rw [exS, hmo]
  have hpart := part_ab c d p (B ++ [[.d (.int .i64 k), .d (.str t), .d (.int .u64 i), .d (.int .i64 ty.kind), .d (.str ty.name), .d (.sl (ty.elem.map tyD)), .d (.sl (ssD ns)), .d (.sl (ks.map exD))]]) T (by rw [bx_old hc]; exact hB) hp
  have hbare := bare_ab (.mk k t i ty ns ks) c d (p + 1)
  simp only [exV, ExT.kind, ExT.text, ExT.int, ExT.type, ExT.names, ExT.kids] at hbare ⊢
  refine AFn.body Tryd.func28 rfl (by kernel_rfl) ?_
  refine ARun.go 100 ?_
  simp only [Tryd.f28, awC, awO, Nat.reduceAdd, Nat.reduceSub, Nat.reduceLT, Nat.reduceLeDiff, Nat.reduceEqDiff, Int.reduceToNat, Int.reduceEq, Int.reduceLT, Int.reduceLE, Int.reduceNeg, Int.reduceAdd, Int.reduceSub, Nat.reduceBEq, awT, tys, hn, hi]
  refine callS_fn (many_ab k _ _) ?_
  rintro _ _ ⟨rfl, rfl⟩
  refine ARun.go 100 ?_
  simp only [awC, awO, Nat.reduceAdd, Nat.reduceSub, Nat.reduceLT, Nat.reduceLeDiff, Nat.reduceEqDiff, Int.reduceToNat, Int.reduceEq, Int.reduceLT, Int.reduceLE, Int.reduceNeg, Int.reduceAdd, Int.reduceSub, Nat.reduceBEq, awT, tys, hn, hi, hmo]
  refine condS_of (fun h15 => ?_) (fun h15 => ?_)
  all_goals
    have hmost : mostS k = if k = 15 then 30000 else 40 := rfl
    simp only [awC, awO, Nat.reduceAdd, Nat.reduceSub, Nat.reduceLT, Nat.reduceLeDiff, Nat.reduceEqDiff, Int.reduceToNat, Int.reduceEq, Int.reduceLT, Int.reduceLE, Int.reduceNeg, Int.reduceAdd, Int.reduceSub, Nat.reduceBEq, awT, tys, h15, hn, hi, hmo]
    refine callS_fn hpart ?_
    rintro _ _ ⟨rfl, rfl⟩
    first
      | have hm : mostS k = 30000 := if_pos (of_decide_eq_true h15)
      | have hm : mostS k = 40 := if_neg (of_decide_eq_false h15)
    cases hk : partOk d p
    · rw [if_pos hk] at hS
      refine ARun.go 200 ?_
      simp only [awC, awO, Nat.reduceAdd, Nat.reduceSub, Nat.reduceLT, Nat.reduceLeDiff, Nat.reduceEqDiff, Int.reduceToNat, Int.reduceEq, Int.reduceLT, Int.reduceLE, Int.reduceNeg, Int.reduceAdd, Int.reduceSub, Nat.reduceBEq, awT, tys, hn, hi, hmo, hw, hk]
      refine ARun.ret Tryd.func28 rfl (Left.set (by rfl) ?_)
      rw [hS]
      exact ⟨rfl, rfl⟩
    · rw [if_neg (by rw [hk]; decide), hm] at hS
      have hpo := partOk_in hk
      have hbare := hbare (B.set c [.d (.int .i64 (p + 1))] ++ [[.d (.int .i64 k), .d (.str t), .d (.int .u64 i), .d (.int .i64 ty.kind), .d (.str ty.name), .d (.sl (ty.elem.map tyD)), .d (.sl (ssD ns)), .d (.sl (ks.map exD))]]) T (by rw [bx_old (by simp; omega)]; exact bx_get hc) ⟨by omega, by omega⟩ ⟨by omega, by omega⟩
      have hbo := bareS_ok (.mk k t i ty ns ks) d (p + 1) hpo.1
      obtain ⟨⟨bb, bq⟩, hb⟩ : ∃ r, bareS (.mk k t i ty ns ks) d (p + 1) = r := ⟨_, rfl⟩
      rw [hb] at hbare hS hbo
      dsimp only at hbo
      refine ARun.go 200 ?_
      simp only [awC, awO, Nat.reduceAdd, Nat.reduceSub, Nat.reduceLT, Nat.reduceLeDiff, Nat.reduceEqDiff, Int.reduceToNat, Int.reduceEq, Int.reduceLT, Int.reduceLE, Int.reduceNeg, Int.reduceAdd, Int.reduceSub, Nat.reduceBEq, awT, tys, hn, hi, hmo, hw, hk]
      repeat' (first | (refine guardB_of (fun h => ?_) (fun h => ?_) <;> simp only [awC, awO, Nat.reduceAdd, Nat.reduceSub, Nat.reduceLT, Nat.reduceLeDiff, Nat.reduceEqDiff, Int.reduceToNat, Int.reduceEq, Int.reduceLT, Int.reduceLE, Int.reduceNeg, Int.reduceAdd, Int.reduceSub, Nat.reduceBEq, awT, tys, h, hn, hi, hmo, hw]) | (refine condS_of (fun h => ?_) (fun h => ?_) <;> simp only [awC, awO, Nat.reduceAdd, Nat.reduceSub, Nat.reduceLT, Nat.reduceLeDiff, Nat.reduceEqDiff, Int.reduceToNat, Int.reduceEq, Int.reduceLT, Int.reduceLE, Int.reduceNeg, Int.reduceAdd, Int.reduceSub, Nat.reduceBEq, awT, tys, h, hn, hi, hmo, hw]))
      all_goals first
        | (refine ARun.ret Tryd.func28 rfl (Left.set (by rfl) ?_)
           rw [hS]
           clear hS hbare
           (try clear ih)
           (try simp only [decide_eq_true_eq, decide_eq_false_iff_not, Bool.not_eq_true', Bool.not_eq_false'] at *)
           simp only [wk, Same, List.getD_cons_zero, List.getD_cons_succ, envS_get, envS_eval, lk_cons, lk_nil, Nat.reduceBEq, Nat.reduceAdd, Nat.reduceSub, cond_true, cond_false]
           simp [*]
           skip)
        | (rw [if_neg (by (simp only [decide_eq_true_eq, decide_eq_false_iff_not, Bool.not_eq_false', Bool.not_eq_true'] at *); omega)] at hS
           refine callS_fn hbare ?_
           rintro _ _ ⟨rfl, rfl⟩
           refine ARun.go 200 ?_
           simp only [awC, awO, Nat.reduceAdd, Nat.reduceSub, Nat.reduceLT, Nat.reduceLeDiff, Nat.reduceEqDiff, Int.reduceToNat, Int.reduceEq, Int.reduceLT, Int.reduceLE, Int.reduceNeg, Int.reduceAdd, Int.reduceSub, Nat.reduceBEq, awT, tys, hn, hi, hmo, hw]
           cases bb
           · simp only [awC, awO, Nat.reduceAdd, Nat.reduceSub, Nat.reduceLT, Nat.reduceLeDiff, Nat.reduceEqDiff, Int.reduceToNat, Int.reduceEq, Int.reduceLT, Int.reduceLE, Int.reduceNeg, Int.reduceAdd, Int.reduceSub, Nat.reduceBEq, awT, tys, hn, hi, hmo, hw]
             refine ARun.ret Tryd.func28 rfl (Left.set (by rfl) ?_)
             rw [hS, if_pos rfl]
             exact ⟨rfl, rfl⟩
           · have hbo := hbo rfl
             simp only [awC, awO, Nat.reduceAdd, Nat.reduceSub, Nat.reduceLT, Nat.reduceLeDiff, Nat.reduceEqDiff, Int.reduceToNat, Int.reduceEq, Int.reduceLT, Int.reduceLE, Int.reduceNeg, Int.reduceAdd, Int.reduceSub, Nat.reduceBEq, awT, tys, hn, hi, hmo, hw]
             refine callS_fn (exprs_ab ks hx c (d + 1) _ bq _ T (by rw [bx_old (by simp; omega)]; exact bx_get hc) (by omega) (by omega)) ?_
             rintro _ _ ⟨rfl, rfl⟩
             refine ARun.go 200 ?_
             simp only [awC, awO, Nat.reduceAdd, Nat.reduceSub, Nat.reduceLT, Nat.reduceLeDiff, Nat.reduceEqDiff, Int.reduceToNat, Int.reduceEq, Int.reduceLT, Int.reduceLE, Int.reduceNeg, Int.reduceAdd, Int.reduceSub, Nat.reduceBEq, awT, tys, hn, hi, hmo, hw]
             refine ARun.ret Tryd.func28 rfl (Left.set (by rfl) ?_)
             rw [hS, if_neg (by simp)]
             refine ⟨?_, rfl⟩
             have hlen : ∀ m : Int, decide (m < (ks.length : Int)) = false → decide ((ks.length : Int) ≤ m) = true := fun m h => decide_eq_true (by have := of_decide_eq_false h; omega)
             have hl1 := hlen _ (by assumption)
             show V.d (D.bool ((exsS ks (d + 1) bq).1 && decide _)) = _
             rw [hl1, Bool.and_true])
mutual
theorem expr_ab : ∀ x : ExT, ExprOk x
  | .mk k t i ty ns ks => expr_step k t i ty ns ks (expr_all ks)
theorem expr_all : ∀ (ks : List ExT), ∀ x ∈ ks, ExprOk x
  | [], _, h => absurd h List.not_mem_nil
  | y :: l, x, h => by
    rcases List.mem_cons.1 h with e | e
    · rw [e]; exact expr_ab y
    · exact expr_all l x e
end
end Go.Proofs.YtombghldgdcjcaaDoor

/- The checker: statements in a row. -/
namespace Go.Proofs.YtombghldgdcjcaaDoor
open Go.RowKit Go.Av Go.Ab
set_option linter.unusedSimpArgs false
set_option maxRecDepth 100000
noncomputable def k61_0 : Code := bodyOf Tryd.f61
noncomputable def k61_1 : Code := lft k61_0
noncomputable def o61_1 : Array Oper := opsOf k61_1
noncomputable def k61_2 : Code := rgt k61_0
noncomputable def k61_3 : Code := lft k61_2
noncomputable def o61_3 : Array Oper := opsOf k61_3
noncomputable def k61_4 : Code := rgt k61_2
theorem c61s (I : Inv) (next stop : Cont) (k : List Item) (env : List V) (S : Mem) : (codeS I next stop k61_1 k env S = next (.inRegion o61_1 [0, 1] :: k) env S) ∧
  (codeS I next stop k61_3 k env S = next (.inRegion o61_3 [0, 1, 2, 3, 4, 5] :: k) env S) ∧
  (codeS I next stop k61_4 k env S = stop (.code .ret :: k) env S) ∧
  (codeS I next stop k61_2 k env S = next (.code k61_3 :: .code k61_4 :: k) env S) ∧
  (codeS I next stop k61_0 k env S = next (.code k61_1 :: .code k61_2 :: k) env S) := by
  repeat' apply And.intro
  all_goals kernel_rfl
theorem c61r (P : Program) (I : Inv) (next stop : Cont) (rest : List Nat) (k : List Item) (env : List V) (S : Mem) : (regS P I next stop o61_1 0 rest k env S = bindS next (op1 P (evalV I env) S (.box 69 (.tmp 0))) (.inRegion o61_1 rest :: k) (some 3) env) ∧
  (regS P I next stop o61_1 1 rest k env S = bindS next (op1 P (evalV I env) S (.assign (.const (.bool false)))) (.inRegion o61_1 rest :: k) (some 4) env) ∧
  (regS P I next stop o61_3 0 rest k env S = bindS next (op1 P (evalV I env) S (.load 44 (.tmp 1))) (.inRegion o61_3 rest :: k) (some 5) env) ∧
  (regS P I next stop o61_3 1 rest k env S = bindS next (op1 P (evalV I env) S (.load 69 (.tmp 3))) (.inRegion o61_3 rest :: k) (some 6) env) ∧
  (regS P I next stop o61_3 2 rest k env S = bindS next (op1 P (evalV I env) S (.load 3 (.tmp 2))) (.inRegion o61_3 rest :: k) (some 7) env) ∧
  (regS P I next stop o61_3 3 rest k env S = callS P I stop (evalV I env (.func 62)) [evalV I env (.tmp 5), evalV I env (.tmp 6), evalV I env (.tmp 7)] (.inRegion o61_3 rest :: k) (some 8) env S) ∧
  (regS P I next stop o61_3 4 rest k env S = bindS next (op1 P (evalV I env) S (.unOp .not 4 (.tmp 8))) (.inRegion o61_3 rest :: k) (some 9) env) ∧
  (regS P I next stop o61_3 5 rest k env S = bindS next (op1 P (evalV I env) S (.assign (.tmp 9))) (.inRegion o61_3 rest :: k) (some 4) env) := by
  repeat' apply And.intro
  all_goals kernel_rfl
set_option linter.defProp false in
/-- All of these. -/
def c61 := And.intro @c61s (@c61r)
noncomputable def k40_0 : Code := bodyOf Tryd.f40
noncomputable def k40_1 : Code := lft k40_0
noncomputable def o40_1 : Array Oper := opsOf k40_1
noncomputable def k40_2 : Code := rgt k40_0
noncomputable def k40_3 : Code := lft k40_2
noncomputable def o40_3 : Array Oper := opsOf k40_3
noncomputable def k40_4 : Code := rgt k40_2
theorem c40s (I : Inv) (next stop : Cont) (k : List Item) (env : List V) (S : Mem) : (codeS I next stop k40_1 k env S = next (.inRegion o40_1 [0, 1, 2] :: k) env S) ∧
  (codeS I next stop k40_3 k env S = next (.inRegion o40_3 [0, 1, 2, 3, 4] :: k) env S) ∧
  (codeS I next stop k40_4 k env S = stop (.code .ret :: k) env S) ∧
  (codeS I next stop k40_2 k env S = next (.code k40_3 :: .code k40_4 :: k) env S) ∧
  (codeS I next stop k40_0 k env S = next (.code k40_1 :: .code k40_2 :: k) env S) := by
  repeat' apply And.intro
  all_goals kernel_rfl
theorem c40r (P : Program) (I : Inv) (next stop : Cont) (rest : List Nat) (k : List Item) (env : List V) (S : Mem) : (regS P I next stop o40_1 0 rest k env S = bindS next (op1 P (evalV I env) S (.box 44 (.tmp 0))) (.inRegion o40_1 rest :: k) (some 3) env) ∧
  (regS P I next stop o40_1 1 rest k env S = bindS next (op1 P (evalV I env) S (.box 3 (.tmp 2))) (.inRegion o40_1 rest :: k) (some 5) env) ∧
  (regS P I next stop o40_1 2 rest k env S = bindS next (op1 P (evalV I env) S (.assign (.const (.bool false)))) (.inRegion o40_1 rest :: k) (some 6) env) ∧
  (regS P I next stop o40_3 0 rest k env S = bindS next (op1 P (evalV I env) S (.move (.tmp 1))) (.inRegion o40_3 rest :: k) (some 7) env) ∧
  (regS P I next stop o40_3 1 rest k env S = bindS next (op1 P (evalV I env) S (.makeFunc (.func 61) #[] #[.tmp 3, .tmp 5])) (.inRegion o40_3 rest :: k) (some 8) env) ∧
  (regS P I next stop o40_3 2 rest k env S = callS P I stop (evalV I env (.func 60)) [evalV I env (.tmp 7), evalV I env (.tmp 8)] (.inRegion o40_3 rest :: k) (some 9) env S) ∧
  (regS P I next stop o40_3 3 rest k env S = bindS next (op1 P (evalV I env) S (.unOp .not 4 (.tmp 9))) (.inRegion o40_3 rest :: k) (some 10) env) ∧
  (regS P I next stop o40_3 4 rest k env S = bindS next (op1 P (evalV I env) S (.assign (.tmp 10))) (.inRegion o40_3 rest :: k) (some 6) env) := by
  repeat' apply And.intro
  all_goals kernel_rfl
set_option linter.defProp false in
/-- All of these. -/
def c40 := And.intro @c40s (@c40r)
noncomputable def k69_0 : Code := bodyOf Tryd.f69
noncomputable def k69_1 : Code := lft k69_0
noncomputable def o69_1 : Array Oper := opsOf k69_1
noncomputable def k69_2 : Code := rgt k69_0
noncomputable def k69_3 : Code := lft k69_2
noncomputable def o69_3 : Array Oper := opsOf k69_3
noncomputable def k69_4 : Code := rgt k69_2
theorem c69s (I : Inv) (next stop : Cont) (k : List Item) (env : List V) (S : Mem) : (codeS I next stop k69_1 k env S = next (.inRegion o69_1 [0, 1] :: k) env S) ∧
  (codeS I next stop k69_3 k env S = next (.inRegion o69_3 [0, 1, 2, 3, 4, 5] :: k) env S) ∧
  (codeS I next stop k69_4 k env S = stop (.code .ret :: k) env S) ∧
  (codeS I next stop k69_2 k env S = next (.code k69_3 :: .code k69_4 :: k) env S) ∧
  (codeS I next stop k69_0 k env S = next (.code k69_1 :: .code k69_2 :: k) env S) := by
  repeat' apply And.intro
  all_goals kernel_rfl
theorem c69r (P : Program) (I : Inv) (next stop : Cont) (rest : List Nat) (k : List Item) (env : List V) (S : Mem) : (regS P I next stop o69_1 0 rest k env S = bindS next (op1 P (evalV I env) S (.box 94 (.tmp 0))) (.inRegion o69_1 rest :: k) (some 2) env) ∧
  (regS P I next stop o69_1 1 rest k env S = bindS next (op1 P (evalV I env) S (.assign (.const (.bool false)))) (.inRegion o69_1 rest :: k) (some 3) env) ∧
  (regS P I next stop o69_3 0 rest k env S = bindS next (op1 P (evalV I env) S (.fieldAddr 94 (.tmp 2) 0)) (.inRegion o69_3 rest :: k) (some 4) env) ∧
  (regS P I next stop o69_3 1 rest k env S = bindS next (op1 P (evalV I env) S (.load 28 (.tmp 4))) (.inRegion o69_3 rest :: k) (some 5) env) ∧
  (regS P I next stop o69_3 2 rest k env S = bindS next (op1 P (evalV I env) S (.fieldAddr 94 (.tmp 1) 0)) (.inRegion o69_3 rest :: k) (some 6) env) ∧
  (regS P I next stop o69_3 3 rest k env S = bindS next (op1 P (evalV I env) S (.load 28 (.tmp 6))) (.inRegion o69_3 rest :: k) (some 7) env) ∧
  (regS P I next stop o69_3 4 rest k env S = bindS next (op1 P (evalV I env) S (.binOp .eql 28 (.tmp 5) (.tmp 7) 28)) (.inRegion o69_3 rest :: k) (some 8) env) ∧
  (regS P I next stop o69_3 5 rest k env S = bindS next (op1 P (evalV I env) S (.assign (.tmp 8))) (.inRegion o69_3 rest :: k) (some 3) env) := by
  repeat' apply And.intro
  all_goals kernel_rfl
set_option linter.defProp false in
/-- All of these. -/
def c69 := And.intro @c69s (@c69r)

def StmtOk (n : Nat) (s : StT) : Prop := ∀ (c : Nat) (d p : Int) (B : List (List V)) (T : List (Nat × Nat)), B[c]? = some [.d (.int .i64 p)] → 0 ≤ p ∧ p ≤ 60000 → 0 ≤ d ∧ d ≤ 62 →
    AFn Tryd.prog TabI 62 [.ptr c 0, stV s, .d (.int .i64 d)] ⟨B, T⟩ (Same (.d (.bool (stS n s d p).1)) ⟨B.set c [.d (.int .i64 (stS n s d p).2)], T⟩)
set_option maxHeartbeats 1000000 in
theorem stmts1_ab (n : Nat) (x : StT) (h : StmtOk n x) (a b c : Nat) (d p : Int) (B : List (List V)) (T : List (Nat × Nat)) (hB : B[c]? = some [.d (.int .i64 p)]) (ha : B[a]? = some [.ptr c 0]) (hb : B[b]? = some [.d (.int .i64 d)]) (hp : 0 ≤ p ∧ p ≤ 60000) (hd : 0 ≤ d ∧ d ≤ 62) :
    AFn Tryd.prog TabI 61 [stV x, .ptr a 0, .ptr b 0] ⟨B, T⟩ (Same (.d (.bool (!(stS n x d p).1))) ⟨B.set c [.d (.int .i64 (stS n x d p).2)], T⟩) := by
  obtain ⟨N, hn⟩ : ∃ N, B.length = N := ⟨_, rfl⟩
  have hc := (List.getElem?_eq_some_iff.1 hB).1
  have hi : c < N := by omega
  have hia : a < N := by have := (List.getElem?_eq_some_iff.1 ha).1; omega
  have hib : b < N := by have := (List.getElem?_eq_some_iff.1 hb).1; omega
  have h := h c d p (B ++ [stB x]) T (by rw [bx_old hc]; exact hB) hp hd
  unfold stV at h ⊢
  simp only [stB] at h
  refine AFn.bodyE (body := k61_0) 10 Tryd.func61 (by kernel_rfl) (by kernel_rfl) (by kernel_rfl) (Nat.le_of_ble_eq_true rfl) fun hsm => ?_
  simp only [smL, sm, exV, stV, tyV, caV, paV, suV, fuV, prV, Bool.and_eq_true, decide_eq_true_eq, and_true, true_and, List.length_map, ssD_length] at hsm
  refine ARun.go 100 ?_
  simp -implicitDefEqProofs only [awC, awN, Nat.reduceAdd, Nat.reduceSub, Nat.reduceLT, Nat.reduceLeDiff, Nat.reduceEqDiff, Int.reduceToNat, Int.reduceEq, Int.reduceLT, Int.reduceLE, Int.reduceNeg, Int.reduceAdd, Int.reduceSub, Nat.reduceBEq, awT, c61, tys, hn, hi, hia, hib, ha, hb]
  refine callS_fn (h) ?_
  rintro _ _ ⟨rfl, rfl⟩
  refine ARun.go 100 ?_
  simp -implicitDefEqProofs only [awC, awN, Nat.reduceAdd, Nat.reduceSub, Nat.reduceLT, Nat.reduceLeDiff, Nat.reduceEqDiff, Int.reduceToNat, Int.reduceEq, Int.reduceLT, Int.reduceLE, Int.reduceNeg, Int.reduceAdd, Int.reduceSub, Nat.reduceBEq, awT, c61, tys, hn, hi, hia, hib, ha, hb]
  refine ARun.ret Tryd.func61 rfl (Left.set (by rfl) ?_)
  (try clear ih)
  (try simp only [decide_eq_true_eq, decide_eq_false_iff_not, Bool.not_eq_true', Bool.not_eq_false'] at *)
  simp only [wk, Same, List.getD_cons_zero, List.getD_cons_succ, envS_get, envS_eval, lk_cons, lk_nil, Nat.reduceBEq, Nat.reduceAdd, Nat.reduceSub, cond_true, cond_false]
  simp [*]
  skip
theorem anyF_row {α : Type} (g : α → Int → Bool × Int) : ∀ (l : List α) (p : Int), anyF (fun x q => (!(g x q).1, (g x q).2)) l p = (!(rowS g l p).1, (rowS g l p).2)
  | [], p => rfl
  | x :: l, p => by
    rw [anyF]
    show _ = (!(andS (g x) (rowS g l) p).1, (andS (g x) (rowS g l) p).2)
    unfold andS
    cases h : (g x p).1
    · simp
    · simp [anyF_row g l]
theorem st_good (n : Nat) (a b c : Nat) (d : Int) (B X : List (List V)) (T : List (Nat × Nat)) (hd : 0 ≤ d ∧ d ≤ 62) (hc : c < B.length) (ha : ∀ q : Int, (B.set c [.d (.int .i64 q)] ++ X)[a]? = some [.ptr c 0]) (hb : ∀ q : Int, (B.set c [.d (.int .i64 q)] ++ X)[b]? = some [.d (.int .i64 d)]) :
    ∀ (l : List StT) (q : Int), (∀ x ∈ l, StmtOk n x) → 0 ≤ q ∧ q ≤ 60000 → Good Tryd.prog TabI 61 [] [.ptr a 0, .ptr b 0] stV (fun q : Int => ⟨B.set c [.d (.int .i64 q)] ++ X, T⟩) (fun x q => (!(stS n x d q).1, (stS n x d q).2)) l q
  | [], _, _, _ => trivial
  | x :: l, q, hl, hq => by
    have hx := hl x List.mem_cons_self
    have hcx : c < (B.set c [.d (.int .i64 q)]).length := by simpa using hc
    refine ⟨?_, fun h => ?_⟩
    · have := stmts1_ab n x hx a b c d q (B.set c [.d (.int .i64 q)] ++ X) T (by rw [bx_old hcx]; exact bx_get hc) (ha q) (hb q) hq hd
      rw [bx_set_old hcx, List.set_set] at this
      exact this
    · have h : (stS n x d q).1 = true := by simpa using h
      have h1 := (Cnts.st n x d).up q h
      have h2 := Bnds.st n x d q hq.2 h
      exact st_good n a b c d B X T hd hc ha hb l _ (fun y hy => hl y (List.mem_cons_of_mem _ hy)) ⟨Int.le_trans hq.1 h1, h2⟩
set_option maxHeartbeats 1000000 in
theorem stmts_ab (n : Nat) (l : List StT) (hl : ∀ x ∈ l, StmtOk n x) (c : Nat) (d p : Int) (B : List (List V)) (T : List (Nat × Nat)) (hB : B[c]? = some [.d (.int .i64 p)]) (hp : 0 ≤ p ∧ p ≤ 60000) (hd : 0 ≤ d ∧ d ≤ 62) :
    AFn Tryd.prog TabI 40 [.ptr c 0, .d (.sl (l.map stD)), .d (.int .i64 d)] ⟨B, T⟩ (Same (.d (.bool (rowS (fun s => stS n s d) l p).1)) ⟨B.set c [.d (.int .i64 (rowS (fun s => stS n s d) l p).2)], T⟩) := by
  obtain ⟨N, hn⟩ : ∃ N, B.length = N := ⟨_, rfl⟩
  have hc := (List.getElem?_eq_some_iff.1 hB).1
  have hi : c < N := by omega
  have hbs : B.set c [.d (.int .i64 p)] = B := by
    obtain ⟨_, h⟩ := List.getElem?_eq_some_iff.1 hB
    rw [← h, List.set_getElem_self]
  refine AFn.bodyE (body := k40_0) 11 Tryd.func40 (by kernel_rfl) (by kernel_rfl) (by kernel_rfl) (Nat.le_of_ble_eq_true rfl) fun hsm => ?_
  simp only [smL, sm, exV, stV, tyV, caV, paV, suV, fuV, prV, Bool.and_eq_true, decide_eq_true_eq, and_true, true_and, List.length_map, ssD_length] at hsm
  refine ARun.go 100 ?_
  simp -implicitDefEqProofs only [awC, awN, Nat.reduceAdd, Nat.reduceSub, Nat.reduceLT, Nat.reduceLeDiff, Nat.reduceEqDiff, Int.reduceToNat, Int.reduceEq, Int.reduceLT, Int.reduceLE, Int.reduceNeg, Int.reduceAdd, Int.reduceSub, Nat.reduceBEq, awT, c40, tys, hn, hi]
  have hg := st_good n N (N + 1) c d B [[.ptr c 0], [.d (.int .i64 d)]] T hd hc (fun q => by rw [bx_loc0 (by simpa using hn)]; rfl) (fun q => by rw [bx_loc (by simpa using hn)]; rfl) l p hl hp
  have hcf := containsFunc_Stmt 61 [] [.ptr N 0, .ptr (N + 1) 0] (fun q : Int => ⟨B.set c [.d (.int .i64 q)] ++ [[.ptr c 0], [.d (.int .i64 d)]], T⟩) (fun x q => (!(stS n x d q).1, (stS n x d q).2)) (fun _ _ => ⟨by simp, rfl⟩) l (by first | exact hsm | exact hsm.1) p hg
  rw [anyF_row (fun x => stS n x d), hbs] at hcf
  refine callS_fn hcf ?_
  rintro _ _ ⟨rfl, rfl⟩
  refine ARun.go 100 ?_
  simp -implicitDefEqProofs only [awC, awN, Nat.reduceAdd, Nat.reduceSub, Nat.reduceLT, Nat.reduceLeDiff, Nat.reduceEqDiff, Int.reduceToNat, Int.reduceEq, Int.reduceLT, Int.reduceLE, Int.reduceNeg, Int.reduceAdd, Int.reduceSub, Nat.reduceBEq, awT, c40, tys, hn, hi, Bool.not_not]
  refine ARun.ret Tryd.func40 rfl (Left.set (by rfl) ?_)
  (try clear ih)
  (try simp only [decide_eq_true_eq, decide_eq_false_iff_not, Bool.not_eq_true', Bool.not_eq_false'] at *)
  simp only [wk, Same, List.getD_cons_zero, List.getD_cons_succ, envS_get, envS_eval, lk_cons, lk_nil, Nat.reduceBEq, Nat.reduceAdd, Nat.reduceSub, cond_true, cond_false]
  simp [*]
  skip
set_option maxHeartbeats 1000000 in
theorem stmt1_ab (x y : CaT) (b : Nat) (bv : V) (B : List (List V)) (T : List (Nat × Nat)) (hb : B[b]? = some [.d (.int .u64 x.int), bv]) :
    AFn Tryd.prog TabI 69 [caV y, .ptr b 0] ⟨B, T⟩ (Same (.d (.bool (decide (y.int = x.int)))) ⟨B, T⟩) := by
  obtain ⟨N, hn⟩ : ∃ N, B.length = N := ⟨_, rfl⟩
  have hib : b < N := by have := (List.getElem?_eq_some_iff.1 hb).1; omega
  unfold caV
  refine AFn.bodyE (body := k69_0) 9 Tryd.func69 (by kernel_rfl) (by kernel_rfl) (by kernel_rfl) (Nat.le_of_ble_eq_true rfl) fun hsm => ?_
  simp only [smL, sm, exV, stV, tyV, caV, paV, suV, fuV, prV, Bool.and_eq_true, decide_eq_true_eq, and_true, true_and, List.length_map, ssD_length] at hsm
  refine ARun.go 100 ?_
  simp -implicitDefEqProofs only [awC, awN, Nat.reduceAdd, Nat.reduceSub, Nat.reduceLT, Nat.reduceLeDiff, Nat.reduceEqDiff, Int.reduceToNat, Int.reduceEq, Int.reduceLT, Int.reduceLE, Int.reduceNeg, Int.reduceAdd, Int.reduceSub, Nat.reduceBEq, awT, c69, tys, hn, hib, hb]
  refine ARun.ret Tryd.func69 rfl (Left.box ?_)
  (try clear ih)
  (try simp only [decide_eq_true_eq, decide_eq_false_iff_not, Bool.not_eq_true', Bool.not_eq_false'] at *)
  simp only [wk, Same, List.getD_cons_zero, List.getD_cons_succ, envS_get, envS_eval, lk_cons, lk_nil, Nat.reduceBEq, Nat.reduceAdd, Nat.reduceSub, cond_true, cond_false]
  simp [*]
  skip
theorem case_seen (x : CaT) : ∀ l : List CaT, l.any (fun y => decide (y.int = x.int)) = (l.map CaT.int).contains x.int
  | [] => rfl
  | y :: l => by
    rw [List.any_cons, case_seen x l, List.map_cons, List.contains_cons]
    congr 1
    rw [Bool.eq_iff_iff, decide_eq_true_iff, beq_iff_eq]
    exact eq_comm
end Go.Proofs.YtombghldgdcjcaaDoor

/- The checker: a statement. -/
namespace Go.Proofs.YtombghldgdcjcaaDoor
open Go.RowKit Go.Av Go.Ab
set_option linter.unusedSimpArgs false
set_option maxRecDepth 100000
noncomputable def k62_0 : Code := bodyOf Tryd.f62
noncomputable def k62_1 : Code := lft k62_0
noncomputable def o62_1 : Array Oper := opsOf k62_1
noncomputable def k62_2 : Code := rgt k62_0
noncomputable def k62_3 : Code := lft k62_2
noncomputable def k62_4 : Code := lft k62_3
noncomputable def o62_4 : Array Oper := opsOf k62_4
noncomputable def p62_4_5 : Oper := opAt o62_4 5
noncomputable def p62_4_6 : Oper := opAt o62_4 6
noncomputable def p62_4_7 : Oper := opAt o62_4 7
noncomputable def p62_4_10 : Oper := opAt o62_4 10
noncomputable def p62_4_11 : Oper := opAt o62_4 11
noncomputable def p62_4_12 : Oper := opAt o62_4 12
noncomputable def p62_4_13 : Oper := opAt o62_4 13
noncomputable def k62_5 : Code := rgt k62_3
noncomputable def k62_6 : Code := lft k62_5
noncomputable def k62_7 : Code := lft k62_6
noncomputable def o62_7 : Array Oper := opsOf k62_7
noncomputable def k62_8 : Code := rgt k62_6
noncomputable def k62_9 : Code := rgt k62_5
noncomputable def k62_10 : Code := rgt k62_2
noncomputable def k62_11 : Code := lft k62_10
noncomputable def k62_12 : Code := lft k62_11
noncomputable def o62_12 : Array Oper := opsOf k62_12
noncomputable def p62_12_4 : Oper := opAt o62_12 4
noncomputable def p62_12_5 : Oper := opAt o62_12 5
noncomputable def p62_12_6 : Oper := opAt o62_12 6
noncomputable def p62_12_7 : Oper := opAt o62_12 7
noncomputable def p62_12_8 : Oper := opAt o62_12 8
noncomputable def p62_12_9 : Oper := opAt o62_12 9
noncomputable def p62_12_10 : Oper := opAt o62_12 10
noncomputable def k62_13 : Code := rgt k62_11
noncomputable def k62_14 : Code := lft k62_13
noncomputable def k62_15 : Code := lft k62_14
noncomputable def o62_15 : Array Oper := opsOf k62_15
noncomputable def k62_16 : Code := rgt k62_14
noncomputable def k62_17 : Code := rgt k62_13
noncomputable def k62_18 : Code := rgt k62_10
noncomputable def k62_19 : Code := lft k62_18
noncomputable def k62_20 : Code := lft k62_19
noncomputable def o62_20 : Array Oper := opsOf k62_20
noncomputable def k62_21 : Code := rgt k62_19
noncomputable def k62_22 : Code := lft k62_21
noncomputable def k62_23 : Code := lft k62_22
noncomputable def k62_24 : Code := lft k62_23
noncomputable def o62_24 : Array Oper := opsOf k62_24
noncomputable def k62_25 : Code := rgt k62_23
noncomputable def k62_26 : Code := lft k62_25
noncomputable def k62_27 : Code := lft k62_26
noncomputable def k62_28 : Code := rgt k62_26
noncomputable def k62_29 : Code := rgt k62_25
noncomputable def k62_30 : Code := lft k62_29
noncomputable def k62_31 : Code := lft k62_30
noncomputable def k62_32 : Code := lft k62_31
noncomputable def o62_32 : Array Oper := opsOf k62_32
noncomputable def k62_33 : Code := rgt k62_31
noncomputable def k62_34 : Code := lft k62_33
noncomputable def o62_34 : Array Oper := opsOf k62_34
noncomputable def p62_34_6 : Oper := opAt o62_34 6
noncomputable def p62_34_7 : Oper := opAt o62_34 7
noncomputable def p62_34_8 : Oper := opAt o62_34 8
noncomputable def p62_34_9 : Oper := opAt o62_34 9
noncomputable def p62_34_10 : Oper := opAt o62_34 10
noncomputable def p62_34_11 : Oper := opAt o62_34 11
noncomputable def p62_34_14 : Oper := opAt o62_34 14
noncomputable def p62_34_15 : Oper := opAt o62_34 15
noncomputable def p62_34_16 : Oper := opAt o62_34 16
noncomputable def p62_34_17 : Oper := opAt o62_34 17
noncomputable def p62_34_18 : Oper := opAt o62_34 18
noncomputable def p62_34_19 : Oper := opAt o62_34 19
noncomputable def p62_34_20 : Oper := opAt o62_34 20
noncomputable def k62_35 : Code := rgt k62_33
noncomputable def k62_36 : Code := lft k62_35
noncomputable def k62_37 : Code := lft k62_36
noncomputable def o62_37 : Array Oper := opsOf k62_37
noncomputable def k62_38 : Code := rgt k62_36
noncomputable def k62_39 : Code := rgt k62_35
noncomputable def k62_40 : Code := rgt k62_29
noncomputable def o62_40 : Array Oper := opsOf k62_40
noncomputable def k62_41 : Code := rgt k62_18
noncomputable def k62_42 : Code := lft k62_41
noncomputable def o62_42 : Array Oper := opsOf k62_42
noncomputable def p62_42_7 : Oper := opAt o62_42 7
noncomputable def p62_42_8 : Oper := opAt o62_42 8
noncomputable def p62_42_9 : Oper := opAt o62_42 9
noncomputable def p62_42_10 : Oper := opAt o62_42 10
noncomputable def p62_42_11 : Oper := opAt o62_42 11
noncomputable def p62_42_12 : Oper := opAt o62_42 12
noncomputable def p62_42_15 : Oper := opAt o62_42 15
noncomputable def p62_42_16 : Oper := opAt o62_42 16
noncomputable def p62_42_17 : Oper := opAt o62_42 17
noncomputable def p62_42_18 : Oper := opAt o62_42 18
noncomputable def p62_42_19 : Oper := opAt o62_42 19
noncomputable def p62_42_20 : Oper := opAt o62_42 20
noncomputable def p62_42_23 : Oper := opAt o62_42 23
noncomputable def p62_42_24 : Oper := opAt o62_42 24
noncomputable def p62_42_25 : Oper := opAt o62_42 25
noncomputable def p62_42_26 : Oper := opAt o62_42 26
noncomputable def p62_42_27 : Oper := opAt o62_42 27
noncomputable def p62_42_28 : Oper := opAt o62_42 28
noncomputable def k62_43 : Code := rgt k62_41
theorem c62s (I : Inv) (next stop : Cont) (k : List Item) (env : List V) (S : Mem) : (codeS I next stop k62_1 k env S = next (.inRegion o62_1 [0, 1] :: k) env S) ∧
  (codeS I next stop k62_4 k env S = next (.inRegion o62_4 [0, 1, 2, 3, 4, 5, 6, 7, 8, 9, 10, 11, 12, 13, 14] :: k) env S) ∧
  (codeS I next stop k62_7 k env S = next (.inRegion o62_7 [0] :: k) env S) ∧
  (codeS I next stop k62_8 k env S = stop (.code .ret :: k) env S) ∧
  (codeS I next stop k62_6 k env S = next (.code k62_7 :: .code k62_8 :: k) env S) ∧
  (codeS I next stop k62_9 k env S = next k env S) ∧
  (codeS I next stop k62_5 k env S = condV next (evalV I env (.tmp 23)) k62_6 k62_9 k env S) ∧
  (codeS I next stop k62_3 k env S = next (.code k62_4 :: .code k62_5 :: k) env S) ∧
  (codeS I next stop k62_12 k env S = next (.inRegion o62_12 [0, 1, 2, 3, 4, 5, 6, 7, 8, 9, 10, 11] :: k) env S) ∧
  (codeS I next stop k62_15 k env S = next (.inRegion o62_15 [0] :: k) env S) ∧
  (codeS I next stop k62_16 k env S = stop (.code .ret :: k) env S) ∧
  (codeS I next stop k62_14 k env S = next (.code k62_15 :: .code k62_16 :: k) env S) ∧
  (codeS I next stop k62_17 k env S = next k env S) ∧
  (codeS I next stop k62_13 k env S = condV next (evalV I env (.tmp 35)) k62_14 k62_17 k env S) ∧
  (codeS I next stop k62_11 k env S = next (.code k62_12 :: .code k62_13 :: k) env S) ∧
  (codeS I next stop k62_20 k env S = next (.inRegion o62_20 [0, 1, 2, 3] :: k) env S) ∧
  (codeS I next stop k62_24 k env S = next (.inRegion o62_24 [0] :: k) env S) ∧
  (codeS I next stop k62_27 k env S = next k env S) ∧
  (codeS I next stop k62_28 k env S = exitV next (exitTo 0 k) env S) ∧
  (codeS I next stop k62_26 k env S = condV next (evalV I env (.tmp 40)) k62_27 k62_28 k env S) ∧
  (codeS I next stop k62_32 k env S = next (.inRegion o62_32 [0, 1, 2, 3, 4, 5] :: k) env S) ∧
  (codeS I next stop k62_34 k env S = next (.inRegion o62_34 [0, 1, 2, 3, 4, 5, 6, 7, 8, 9, 10, 11, 12, 13, 14, 15, 16, 17, 18, 19, 20, 21] :: k) env S) ∧
  (codeS I next stop k62_37 k env S = next (.inRegion o62_37 [0] :: k) env S) ∧
  (codeS I next stop k62_38 k env S = stop (.code .ret :: k) env S) ∧
  (codeS I next stop k62_36 k env S = next (.code k62_37 :: .code k62_38 :: k) env S) ∧
  (codeS I next stop k62_39 k env S = next k env S) ∧
  (codeS I next stop k62_35 k env S = condV next (evalV I env (.tmp 65)) k62_36 k62_39 k env S) ∧
  (codeS I next stop k62_33 k env S = next (.code k62_34 :: .code k62_35 :: k) env S) ∧
  (codeS I next stop k62_31 k env S = next (.code k62_32 :: .code k62_33 :: k) env S) ∧
  (codeS I next stop k62_30 k env S = next (.code k62_31 :: .inBlock 1 :: k) env S) ∧
  (codeS I next stop k62_40 k env S = next (.inRegion o62_40 [0, 1] :: k) env S) ∧
  (codeS I next stop k62_29 k env S = next (.code k62_30 :: .code k62_40 :: k) env S) ∧
  (codeS I next stop k62_25 k env S = next (.code k62_26 :: .code k62_29 :: k) env S) ∧
  (codeS I next stop k62_23 k env S = next (.code k62_24 :: .code k62_25 :: k) env S) ∧
  (codeS I next stop k62_22 k env S = stop (.code (.loop k62_23) :: k) env S) ∧
  (codeS I next stop k62_21 k env S = next (.code k62_22 :: .inBlock 0 :: k) env S) ∧
  (codeS I next stop k62_19 k env S = next (.code k62_20 :: .code k62_21 :: k) env S) ∧
  (codeS I next stop k62_42 k env S = next (.inRegion o62_42 [0, 1, 2, 3, 4, 5, 6, 7, 8, 9, 10, 11, 12, 13, 14, 15, 16, 17, 18, 19, 20, 21, 22, 23, 24, 25, 26, 27, 28, 29, 30] :: k) env S) ∧
  (codeS I next stop k62_43 k env S = stop (.code .ret :: k) env S) ∧
  (codeS I next stop k62_41 k env S = next (.code k62_42 :: .code k62_43 :: k) env S) ∧
  (codeS I next stop k62_18 k env S = next (.code k62_19 :: .code k62_41 :: k) env S) ∧
  (codeS I next stop k62_10 k env S = next (.code k62_11 :: .code k62_18 :: k) env S) ∧
  (codeS I next stop k62_2 k env S = next (.code k62_3 :: .code k62_10 :: k) env S) ∧
  (codeS I next stop k62_0 k env S = next (.code k62_1 :: .code k62_2 :: k) env S) := by
  repeat' apply And.intro
  all_goals kernel_rfl
theorem c62r (P : Program) (I : Inv) (next stop : Cont) (rest : List Nat) (k : List Item) (env : List V) (S : Mem) : (regS P I next stop o62_1 0 rest k env S = bindS next (op1 P (evalV I env) S (.box 69 (.tmp 1))) (.inRegion o62_1 rest :: k) (some 4) env) ∧
  (regS P I next stop o62_1 1 rest k env S = bindS next (op1 P (evalV I env) S (.assign (.const (.bool false)))) (.inRegion o62_1 rest :: k) (some 6) env) ∧
  (regS P I next stop o62_4 0 rest k env S = bindS next (op1 P (evalV I env) S (.move (.tmp 0))) (.inRegion o62_4 rest :: k) (some 9) env) ∧
  (regS P I next stop o62_4 1 rest k env S = bindS next (op1 P (evalV I env) S (.move (.tmp 2))) (.inRegion o62_4 rest :: k) (some 10) env) ∧
  (regS P I next stop o62_4 2 rest k env S = callS P I stop (evalV I env (.func 35)) [evalV I env (.tmp 9), evalV I env (.tmp 10)] (.inRegion o62_4 rest :: k) (some 11) env S) ∧
  (regS P I next stop o62_4 3 rest k env S = bindS next (op1 P (evalV I env) S (.unOp .not 4 (.tmp 11))) (.inRegion o62_4 rest :: k) (some 12) env) ∧
  (regS P I next stop o62_4 4 rest k env S = bindS next (op1 P (evalV I env) S (.move (.tmp 12))) (.inRegion o62_4 rest :: k) (some 13) env) ∧
  (regS P I next stop o62_4 5 rest k env S = guardS P I next stop (env.getD 13 .undef) false o62_4 rest p62_4_5 k env S) ∧
  (doOp P I next stop o62_4 rest p62_4_5 k env S = bindS next (op1 P (evalV I env) S (.load 69 (.tmp 4))) (.inRegion o62_4 rest :: k) (some 14) env) ∧
  (regS P I next stop o62_4 6 rest k env S = guardS P I next stop (env.getD 13 .undef) false o62_4 rest p62_4_6 k env S) ∧
  (doOp P I next stop o62_4 rest p62_4_6 k env S = callS P I stop (evalV I env (.func 67)) [evalV I env (.tmp 14)] (.inRegion o62_4 rest :: k) (some 15) env S) ∧
  (regS P I next stop o62_4 7 rest k env S = guardS P I next stop (env.getD 13 .undef) false o62_4 rest p62_4_7 k env S) ∧
  (doOp P I next stop o62_4 rest p62_4_7 k env S = bindS next (op1 P (evalV I env) S (.unOp .not 4 (.tmp 15))) (.inRegion o62_4 rest :: k) (some 16) env) ∧
  (regS P I next stop o62_4 8 rest k env S = bindS next (op1 P (evalV I env) S (.pick (.tmp 13) (.const (.bool true)) (.tmp 16))) (.inRegion o62_4 rest :: k) (some 17) env) ∧
  (regS P I next stop o62_4 9 rest k env S = bindS next (op1 P (evalV I env) S (.move (.tmp 17))) (.inRegion o62_4 rest :: k) (some 18) env) ∧
  (regS P I next stop o62_4 10 rest k env S = guardS P I next stop (env.getD 18 .undef) false o62_4 rest p62_4_10 k env S) ∧
  (doOp P I next stop o62_4 rest p62_4_10 k env S = bindS next (op1 P (evalV I env) S (.fieldAddr 69 (.tmp 4) 7)) (.inRegion o62_4 rest :: k) (some 19) env) ∧
  (regS P I next stop o62_4 11 rest k env S = guardS P I next stop (env.getD 18 .undef) false o62_4 rest p62_4_11 k env S) ∧
  (doOp P I next stop o62_4 rest p62_4_11 k env S = bindS next (op1 P (evalV I env) S (.load 67 (.tmp 19))) (.inRegion o62_4 rest :: k) (some 20) env) ∧
  (regS P I next stop o62_4 12 rest k env S = guardS P I next stop (env.getD 18 .undef) false o62_4 rest p62_4_12 k env S) ∧
  (doOp P I next stop o62_4 rest p62_4_12 k env S = bindS next (opCall P (evalV I env) S { callee := .builtin .len, args := #[.tmp 20], argTypes := #[67] }) (.inRegion o62_4 rest :: k) (some 21) env) ∧
  (regS P I next stop o62_4 13 rest k env S = guardS P I next stop (env.getD 18 .undef) false o62_4 rest p62_4_13 k env S) ∧
  (doOp P I next stop o62_4 rest p62_4_13 k env S = bindS next (op1 P (evalV I env) S (.binOp .gtr 3 (.tmp 21) (.const (.int .i64 40)) 3)) (.inRegion o62_4 rest :: k) (some 22) env) ∧
  (regS P I next stop o62_4 14 rest k env S = bindS next (op1 P (evalV I env) S (.pick (.tmp 18) (.const (.bool true)) (.tmp 22))) (.inRegion o62_4 rest :: k) (some 23) env) ∧
  (regS P I next stop o62_7 0 rest k env S = bindS next (op1 P (evalV I env) S (.assign (.const (.bool false)))) (.inRegion o62_7 rest :: k) (some 6) env) ∧
  (regS P I next stop o62_12 0 rest k env S = bindS next (op1 P (evalV I env) S (.fieldAddr 69 (.tmp 4) 0)) (.inRegion o62_12 rest :: k) (some 24) env) ∧
  (regS P I next stop o62_12 1 rest k env S = bindS next (op1 P (evalV I env) S (.load 3 (.tmp 24))) (.inRegion o62_12 rest :: k) (some 25) env) ∧
  (regS P I next stop o62_12 2 rest k env S = bindS next (op1 P (evalV I env) S (.binOp .eql 3 (.tmp 25) (.const (.int .i64 1)) 3)) (.inRegion o62_12 rest :: k) (some 26) env) ∧
  (regS P I next stop o62_12 3 rest k env S = bindS next (op1 P (evalV I env) S (.move (.tmp 26))) (.inRegion o62_12 rest :: k) (some 27) env) ∧
  (regS P I next stop o62_12 4 rest k env S = guardS P I next stop (env.getD 27 .undef) true o62_12 rest p62_12_4 k env S) ∧
  (doOp P I next stop o62_12 rest p62_12_4 k env S = bindS next (op1 P (evalV I env) S (.move (.tmp 0))) (.inRegion o62_12 rest :: k) (some 28) env) ∧
  (regS P I next stop o62_12 5 rest k env S = guardS P I next stop (env.getD 27 .undef) true o62_12 rest p62_12_5 k env S) ∧
  (doOp P I next stop o62_12 rest p62_12_5 k env S = bindS next (op1 P (evalV I env) S (.fieldAddr 69 (.tmp 4) 2)) (.inRegion o62_12 rest :: k) (some 29) env) ∧
  (regS P I next stop o62_12 6 rest k env S = guardS P I next stop (env.getD 27 .undef) true o62_12 rest p62_12_6 k env S) ∧
  (doOp P I next stop o62_12 rest p62_12_6 k env S = bindS next (op1 P (evalV I env) S (.load 34 (.tmp 29))) (.inRegion o62_12 rest :: k) (some 30) env) ∧
  (regS P I next stop o62_12 7 rest k env S = guardS P I next stop (env.getD 27 .undef) true o62_12 rest p62_12_7 k env S) ∧
  (doOp P I next stop o62_12 rest p62_12_7 k env S = bindS next (op1 P (evalV I env) S (.move (.tmp 2))) (.inRegion o62_12 rest :: k) (some 31) env) ∧
  (regS P I next stop o62_12 8 rest k env S = guardS P I next stop (env.getD 27 .undef) true o62_12 rest p62_12_8 k env S) ∧
  (doOp P I next stop o62_12 rest p62_12_8 k env S = bindS next (op1 P (evalV I env) S (.binOp .add 3 (.tmp 31) (.const (.int .i64 1)) 3)) (.inRegion o62_12 rest :: k) (some 32) env) ∧
  (regS P I next stop o62_12 9 rest k env S = guardS P I next stop (env.getD 27 .undef) true o62_12 rest p62_12_9 k env S) ∧
  (doOp P I next stop o62_12 rest p62_12_9 k env S = callS P I stop (evalV I env (.func 39)) [evalV I env (.tmp 28), evalV I env (.tmp 30), evalV I env (.tmp 32)] (.inRegion o62_12 rest :: k) (some 33) env S) ∧
  (regS P I next stop o62_12 10 rest k env S = guardS P I next stop (env.getD 27 .undef) true o62_12 rest p62_12_10 k env S) ∧
  (doOp P I next stop o62_12 rest p62_12_10 k env S = bindS next (op1 P (evalV I env) S (.unOp .not 4 (.tmp 33))) (.inRegion o62_12 rest :: k) (some 34) env) ∧
  (regS P I next stop o62_12 11 rest k env S = bindS next (op1 P (evalV I env) S (.pick (.tmp 27) (.tmp 34) (.const (.bool false)))) (.inRegion o62_12 rest :: k) (some 35) env) ∧
  (regS P I next stop o62_15 0 rest k env S = bindS next (op1 P (evalV I env) S (.assign (.const (.bool false)))) (.inRegion o62_15 rest :: k) (some 6) env) ∧
  (regS P I next stop o62_20 0 rest k env S = bindS next (op1 P (evalV I env) S (.fieldAddr 69 (.tmp 4) 7)) (.inRegion o62_20 rest :: k) (some 36) env) ∧
  (regS P I next stop o62_20 1 rest k env S = bindS next (op1 P (evalV I env) S (.load 67 (.tmp 36))) (.inRegion o62_20 rest :: k) (some 37) env) ∧
  (regS P I next stop o62_20 2 rest k env S = bindS next (opCall P (evalV I env) S { callee := .builtin .len, args := #[.tmp 37], argTypes := #[67] }) (.inRegion o62_20 rest :: k) (some 38) env) ∧
  (regS P I next stop o62_20 3 rest k env S = bindS next (op1 P (evalV I env) S (.move (.const (.int .i64 0)))) (.inRegion o62_20 rest :: k) (some 39) env) ∧
  (regS P I next stop o62_24 0 rest k env S = bindS next (op1 P (evalV I env) S (.binOp .lss 3 (.tmp 39) (.tmp 38) 3)) (.inRegion o62_24 rest :: k) (some 40) env) ∧
  (regS P I next stop o62_32 0 rest k env S = bindS next (op1 P (evalV I env) S (.move (.tmp 39))) (.inRegion o62_32 rest :: k) (some 41) env) ∧
  (regS P I next stop o62_32 1 rest k env S = bindS next (op1 P (evalV I env) S (.indexAddr 67 (.tmp 37) (.tmp 39))) (.inRegion o62_32 rest :: k) (some 42) env) ∧
  (regS P I next stop o62_32 2 rest k env S = bindS next (op1 P (evalV I env) S (.load 94 (.tmp 42))) (.inRegion o62_32 rest :: k) (some 43) env) ∧
  (regS P I next stop o62_32 3 rest k env S = bindS next (op1 P (evalV I env) S (.alloc 94)) (.inRegion o62_32 rest :: k) (some 8) env) ∧
  (regS P I next stop o62_32 4 rest k env S = bindS next (op1 P (evalV I env) S (.assign (.tmp 41))) (.inRegion o62_32 rest :: k) (some 7) env) ∧
  (regS P I next stop o62_32 5 rest k env S = bindS next (op1 P (evalV I env) S (.store 94 (.tmp 8) (.tmp 43))) (.inRegion o62_32 rest :: k) none env) ∧
  (regS P I next stop o62_34 0 rest k env S = bindS next (op1 P (evalV I env) S (.move (.tmp 0))) (.inRegion o62_34 rest :: k) (some 44) env) ∧
  (regS P I next stop o62_34 1 rest k env S = bindS next (op1 P (evalV I env) S (.move (.tmp 2))) (.inRegion o62_34 rest :: k) (some 45) env) ∧
  (regS P I next stop o62_34 2 rest k env S = bindS next (op1 P (evalV I env) S (.binOp .add 3 (.tmp 45) (.const (.int .i64 1)) 3)) (.inRegion o62_34 rest :: k) (some 46) env) ∧
  (regS P I next stop o62_34 3 rest k env S = callS P I stop (evalV I env (.func 35)) [evalV I env (.tmp 44), evalV I env (.tmp 46)] (.inRegion o62_34 rest :: k) (some 47) env S) ∧
  (regS P I next stop o62_34 4 rest k env S = bindS next (op1 P (evalV I env) S (.unOp .not 4 (.tmp 47))) (.inRegion o62_34 rest :: k) (some 48) env) ∧
  (regS P I next stop o62_34 5 rest k env S = bindS next (op1 P (evalV I env) S (.move (.tmp 48))) (.inRegion o62_34 rest :: k) (some 49) env) ∧
  (regS P I next stop o62_34 6 rest k env S = guardS P I next stop (env.getD 49 .undef) false o62_34 rest p62_34_6 k env S) ∧
  (doOp P I next stop o62_34 rest p62_34_6 k env S = bindS next (op1 P (evalV I env) S (.fieldAddr 69 (.tmp 4) 7)) (.inRegion o62_34 rest :: k) (some 50) env) ∧
  (regS P I next stop o62_34 7 rest k env S = guardS P I next stop (env.getD 49 .undef) false o62_34 rest p62_34_7 k env S) ∧
  (doOp P I next stop o62_34 rest p62_34_7 k env S = bindS next (op1 P (evalV I env) S (.load 67 (.tmp 50))) (.inRegion o62_34 rest :: k) (some 51) env) ∧
  (regS P I next stop o62_34 8 rest k env S = guardS P I next stop (env.getD 49 .undef) false o62_34 rest p62_34_8 k env S) ∧
  (doOp P I next stop o62_34 rest p62_34_8 k env S = bindS next (op1 P (evalV I env) S (.move (.tmp 7))) (.inRegion o62_34 rest :: k) (some 52) env) ∧
  (regS P I next stop o62_34 9 rest k env S = guardS P I next stop (env.getD 49 .undef) false o62_34 rest p62_34_9 k env S) ∧
  (doOp P I next stop o62_34 rest p62_34_9 k env S = bindS next (op1 P (evalV I env) S (.slice 67 (.tmp 51) none (some (.tmp 52)) none)) (.inRegion o62_34 rest :: k) (some 53) env) ∧
  (regS P I next stop o62_34 10 rest k env S = guardS P I next stop (env.getD 49 .undef) false o62_34 rest p62_34_10 k env S) ∧
  (doOp P I next stop o62_34 rest p62_34_10 k env S = bindS next (op1 P (evalV I env) S (.makeFunc (.func 69) #[] #[.tmp 8])) (.inRegion o62_34 rest :: k) (some 54) env) ∧
  (regS P I next stop o62_34 11 rest k env S = guardS P I next stop (env.getD 49 .undef) false o62_34 rest p62_34_11 k env S) ∧
  (doOp P I next stop o62_34 rest p62_34_11 k env S = callS P I stop (evalV I env (.func 68)) [evalV I env (.tmp 53), evalV I env (.tmp 54)] (.inRegion o62_34 rest :: k) (some 55) env S) ∧
  (regS P I next stop o62_34 12 rest k env S = bindS next (op1 P (evalV I env) S (.pick (.tmp 49) (.const (.bool true)) (.tmp 55))) (.inRegion o62_34 rest :: k) (some 56) env) ∧
  (regS P I next stop o62_34 13 rest k env S = bindS next (op1 P (evalV I env) S (.move (.tmp 56))) (.inRegion o62_34 rest :: k) (some 57) env) ∧
  (regS P I next stop o62_34 14 rest k env S = guardS P I next stop (env.getD 57 .undef) false o62_34 rest p62_34_14 k env S) ∧
  (doOp P I next stop o62_34 rest p62_34_14 k env S = bindS next (op1 P (evalV I env) S (.move (.tmp 0))) (.inRegion o62_34 rest :: k) (some 58) env) ∧
  (regS P I next stop o62_34 15 rest k env S = guardS P I next stop (env.getD 57 .undef) false o62_34 rest p62_34_15 k env S) ∧
  (doOp P I next stop o62_34 rest p62_34_15 k env S = bindS next (op1 P (evalV I env) S (.fieldAddr 94 (.tmp 8) 1)) (.inRegion o62_34 rest :: k) (some 59) env) ∧
  (regS P I next stop o62_34 16 rest k env S = guardS P I next stop (env.getD 57 .undef) false o62_34 rest p62_34_16 k env S) ∧
  (doOp P I next stop o62_34 rest p62_34_16 k env S = bindS next (op1 P (evalV I env) S (.load 54 (.tmp 59))) (.inRegion o62_34 rest :: k) (some 60) env) ∧
  (regS P I next stop o62_34 17 rest k env S = guardS P I next stop (env.getD 57 .undef) false o62_34 rest p62_34_17 k env S) ∧
  (doOp P I next stop o62_34 rest p62_34_17 k env S = bindS next (op1 P (evalV I env) S (.move (.tmp 2))) (.inRegion o62_34 rest :: k) (some 61) env) ∧
  (regS P I next stop o62_34 18 rest k env S = guardS P I next stop (env.getD 57 .undef) false o62_34 rest p62_34_18 k env S) ∧
  (doOp P I next stop o62_34 rest p62_34_18 k env S = bindS next (op1 P (evalV I env) S (.binOp .add 3 (.tmp 61) (.const (.int .i64 2)) 3)) (.inRegion o62_34 rest :: k) (some 62) env) ∧
  (regS P I next stop o62_34 19 rest k env S = guardS P I next stop (env.getD 57 .undef) false o62_34 rest p62_34_19 k env S) ∧
  (doOp P I next stop o62_34 rest p62_34_19 k env S = callS P I stop (evalV I env (.func 40)) [evalV I env (.tmp 58), evalV I env (.tmp 60), evalV I env (.tmp 62)] (.inRegion o62_34 rest :: k) (some 63) env S) ∧
  (regS P I next stop o62_34 20 rest k env S = guardS P I next stop (env.getD 57 .undef) false o62_34 rest p62_34_20 k env S) ∧
  (doOp P I next stop o62_34 rest p62_34_20 k env S = bindS next (op1 P (evalV I env) S (.unOp .not 4 (.tmp 63))) (.inRegion o62_34 rest :: k) (some 64) env) ∧
  (regS P I next stop o62_34 21 rest k env S = bindS next (op1 P (evalV I env) S (.pick (.tmp 57) (.const (.bool true)) (.tmp 64))) (.inRegion o62_34 rest :: k) (some 65) env) ∧
  (regS P I next stop o62_37 0 rest k env S = bindS next (op1 P (evalV I env) S (.assign (.const (.bool false)))) (.inRegion o62_37 rest :: k) (some 6) env) ∧
  (regS P I next stop o62_40 0 rest k env S = bindS next (op1 P (evalV I env) S (.binOp .add 3 (.tmp 39) (.const (.int .i64 1)) 3)) (.inRegion o62_40 rest :: k) (some 66) env) ∧
  (regS P I next stop o62_40 1 rest k env S = bindS next (op1 P (evalV I env) S (.move (.tmp 66))) (.inRegion o62_40 rest :: k) (some 39) env) ∧
  (regS P I next stop o62_42 0 rest k env S = bindS next (op1 P (evalV I env) S (.move (.tmp 0))) (.inRegion o62_42 rest :: k) (some 67) env) ∧
  (regS P I next stop o62_42 1 rest k env S = bindS next (op1 P (evalV I env) S (.fieldAddr 69 (.tmp 4) 3)) (.inRegion o62_42 rest :: k) (some 68) env) ∧
  (regS P I next stop o62_42 2 rest k env S = bindS next (op1 P (evalV I env) S (.load 36 (.tmp 68))) (.inRegion o62_42 rest :: k) (some 69) env) ∧
  (regS P I next stop o62_42 3 rest k env S = bindS next (op1 P (evalV I env) S (.move (.tmp 2))) (.inRegion o62_42 rest :: k) (some 70) env) ∧
  (regS P I next stop o62_42 4 rest k env S = bindS next (op1 P (evalV I env) S (.binOp .add 3 (.tmp 70) (.const (.int .i64 1)) 3)) (.inRegion o62_42 rest :: k) (some 71) env) ∧
  (regS P I next stop o62_42 5 rest k env S = callS P I stop (evalV I env (.func 47)) [evalV I env (.tmp 67), evalV I env (.tmp 69), evalV I env (.tmp 71), evalV I env (.const (.int .i64 40))] (.inRegion o62_42 rest :: k) (some 72) env S) ∧
  (regS P I next stop o62_42 6 rest k env S = bindS next (op1 P (evalV I env) S (.move (.tmp 72))) (.inRegion o62_42 rest :: k) (some 73) env) ∧
  (regS P I next stop o62_42 7 rest k env S = guardS P I next stop (env.getD 73 .undef) true o62_42 rest p62_42_7 k env S) ∧
  (doOp P I next stop o62_42 rest p62_42_7 k env S = bindS next (op1 P (evalV I env) S (.move (.tmp 0))) (.inRegion o62_42 rest :: k) (some 74) env) ∧
  (regS P I next stop o62_42 8 rest k env S = guardS P I next stop (env.getD 73 .undef) true o62_42 rest p62_42_8 k env S) ∧
  (doOp P I next stop o62_42 rest p62_42_8 k env S = bindS next (op1 P (evalV I env) S (.fieldAddr 69 (.tmp 4) 4)) (.inRegion o62_42 rest :: k) (some 75) env) ∧
  (regS P I next stop o62_42 9 rest k env S = guardS P I next stop (env.getD 73 .undef) true o62_42 rest p62_42_9 k env S) ∧
  (doOp P I next stop o62_42 rest p62_42_9 k env S = bindS next (op1 P (evalV I env) S (.load 36 (.tmp 75))) (.inRegion o62_42 rest :: k) (some 76) env) ∧
  (regS P I next stop o62_42 10 rest k env S = guardS P I next stop (env.getD 73 .undef) true o62_42 rest p62_42_10 k env S) ∧
  (doOp P I next stop o62_42 rest p62_42_10 k env S = bindS next (op1 P (evalV I env) S (.move (.tmp 2))) (.inRegion o62_42 rest :: k) (some 77) env) ∧
  (regS P I next stop o62_42 11 rest k env S = guardS P I next stop (env.getD 73 .undef) true o62_42 rest p62_42_11 k env S) ∧
  (doOp P I next stop o62_42 rest p62_42_11 k env S = bindS next (op1 P (evalV I env) S (.binOp .add 3 (.tmp 77) (.const (.int .i64 1)) 3)) (.inRegion o62_42 rest :: k) (some 78) env) ∧
  (regS P I next stop o62_42 12 rest k env S = guardS P I next stop (env.getD 73 .undef) true o62_42 rest p62_42_12 k env S) ∧
  (doOp P I next stop o62_42 rest p62_42_12 k env S = callS P I stop (evalV I env (.func 47)) [evalV I env (.tmp 74), evalV I env (.tmp 76), evalV I env (.tmp 78), evalV I env (.const (.int .i64 40))] (.inRegion o62_42 rest :: k) (some 79) env S) ∧
  (regS P I next stop o62_42 13 rest k env S = bindS next (op1 P (evalV I env) S (.pick (.tmp 73) (.tmp 79) (.const (.bool false)))) (.inRegion o62_42 rest :: k) (some 80) env) ∧
  (regS P I next stop o62_42 14 rest k env S = bindS next (op1 P (evalV I env) S (.move (.tmp 80))) (.inRegion o62_42 rest :: k) (some 81) env) ∧
  (regS P I next stop o62_42 15 rest k env S = guardS P I next stop (env.getD 81 .undef) true o62_42 rest p62_42_15 k env S) ∧
  (doOp P I next stop o62_42 rest p62_42_15 k env S = bindS next (op1 P (evalV I env) S (.move (.tmp 0))) (.inRegion o62_42 rest :: k) (some 82) env) ∧
  (regS P I next stop o62_42 16 rest k env S = guardS P I next stop (env.getD 81 .undef) true o62_42 rest p62_42_16 k env S) ∧
  (doOp P I next stop o62_42 rest p62_42_16 k env S = bindS next (op1 P (evalV I env) S (.fieldAddr 69 (.tmp 4) 5)) (.inRegion o62_42 rest :: k) (some 83) env) ∧
  (regS P I next stop o62_42 17 rest k env S = guardS P I next stop (env.getD 81 .undef) true o62_42 rest p62_42_17 k env S) ∧
  (doOp P I next stop o62_42 rest p62_42_17 k env S = bindS next (op1 P (evalV I env) S (.load 54 (.tmp 83))) (.inRegion o62_42 rest :: k) (some 84) env) ∧
  (regS P I next stop o62_42 18 rest k env S = guardS P I next stop (env.getD 81 .undef) true o62_42 rest p62_42_18 k env S) ∧
  (doOp P I next stop o62_42 rest p62_42_18 k env S = bindS next (op1 P (evalV I env) S (.move (.tmp 2))) (.inRegion o62_42 rest :: k) (some 85) env) ∧
  (regS P I next stop o62_42 19 rest k env S = guardS P I next stop (env.getD 81 .undef) true o62_42 rest p62_42_19 k env S) ∧
  (doOp P I next stop o62_42 rest p62_42_19 k env S = bindS next (op1 P (evalV I env) S (.binOp .add 3 (.tmp 85) (.const (.int .i64 1)) 3)) (.inRegion o62_42 rest :: k) (some 86) env) ∧
  (regS P I next stop o62_42 20 rest k env S = guardS P I next stop (env.getD 81 .undef) true o62_42 rest p62_42_20 k env S) ∧
  (doOp P I next stop o62_42 rest p62_42_20 k env S = callS P I stop (evalV I env (.func 40)) [evalV I env (.tmp 82), evalV I env (.tmp 84), evalV I env (.tmp 86)] (.inRegion o62_42 rest :: k) (some 87) env S) ∧
  (regS P I next stop o62_42 21 rest k env S = bindS next (op1 P (evalV I env) S (.pick (.tmp 81) (.tmp 87) (.const (.bool false)))) (.inRegion o62_42 rest :: k) (some 88) env) ∧
  (regS P I next stop o62_42 22 rest k env S = bindS next (op1 P (evalV I env) S (.move (.tmp 88))) (.inRegion o62_42 rest :: k) (some 89) env) ∧
  (regS P I next stop o62_42 23 rest k env S = guardS P I next stop (env.getD 89 .undef) true o62_42 rest p62_42_23 k env S) ∧
  (doOp P I next stop o62_42 rest p62_42_23 k env S = bindS next (op1 P (evalV I env) S (.move (.tmp 0))) (.inRegion o62_42 rest :: k) (some 90) env) ∧
  (regS P I next stop o62_42 24 rest k env S = guardS P I next stop (env.getD 89 .undef) true o62_42 rest p62_42_24 k env S) ∧
  (doOp P I next stop o62_42 rest p62_42_24 k env S = bindS next (op1 P (evalV I env) S (.fieldAddr 69 (.tmp 4) 6)) (.inRegion o62_42 rest :: k) (some 91) env) ∧
  (regS P I next stop o62_42 25 rest k env S = guardS P I next stop (env.getD 89 .undef) true o62_42 rest p62_42_25 k env S) ∧
  (doOp P I next stop o62_42 rest p62_42_25 k env S = bindS next (op1 P (evalV I env) S (.load 54 (.tmp 91))) (.inRegion o62_42 rest :: k) (some 92) env) ∧
  (regS P I next stop o62_42 26 rest k env S = guardS P I next stop (env.getD 89 .undef) true o62_42 rest p62_42_26 k env S) ∧
  (doOp P I next stop o62_42 rest p62_42_26 k env S = bindS next (op1 P (evalV I env) S (.move (.tmp 2))) (.inRegion o62_42 rest :: k) (some 93) env) ∧
  (regS P I next stop o62_42 27 rest k env S = guardS P I next stop (env.getD 89 .undef) true o62_42 rest p62_42_27 k env S) ∧
  (doOp P I next stop o62_42 rest p62_42_27 k env S = bindS next (op1 P (evalV I env) S (.binOp .add 3 (.tmp 93) (.const (.int .i64 1)) 3)) (.inRegion o62_42 rest :: k) (some 94) env) ∧
  (regS P I next stop o62_42 28 rest k env S = guardS P I next stop (env.getD 89 .undef) true o62_42 rest p62_42_28 k env S) ∧
  (doOp P I next stop o62_42 rest p62_42_28 k env S = callS P I stop (evalV I env (.func 40)) [evalV I env (.tmp 90), evalV I env (.tmp 92), evalV I env (.tmp 94)] (.inRegion o62_42 rest :: k) (some 95) env S) ∧
  (regS P I next stop o62_42 29 rest k env S = bindS next (op1 P (evalV I env) S (.pick (.tmp 89) (.tmp 95) (.const (.bool false)))) (.inRegion o62_42 rest :: k) (some 96) env) ∧
  (regS P I next stop o62_42 30 rest k env S = bindS next (op1 P (evalV I env) S (.assign (.tmp 96))) (.inRegion o62_42 rest :: k) (some 6) env) := by
  repeat' apply And.intro
  all_goals kernel_rfl
theorem c62t  : (p62_4_5.dst = (some 14)) ∧
  (p62_4_6.dst = (some 15)) ∧
  (p62_4_7.dst = (some 16)) ∧
  (p62_4_10.dst = (some 19)) ∧
  (p62_4_11.dst = (some 20)) ∧
  (p62_4_12.dst = (some 21)) ∧
  (p62_4_13.dst = (some 22)) ∧
  (p62_12_4.dst = (some 28)) ∧
  (p62_12_5.dst = (some 29)) ∧
  (p62_12_6.dst = (some 30)) ∧
  (p62_12_7.dst = (some 31)) ∧
  (p62_12_8.dst = (some 32)) ∧
  (p62_12_9.dst = (some 33)) ∧
  (p62_12_10.dst = (some 34)) ∧
  (p62_34_6.dst = (some 50)) ∧
  (p62_34_7.dst = (some 51)) ∧
  (p62_34_8.dst = (some 52)) ∧
  (p62_34_9.dst = (some 53)) ∧
  (p62_34_10.dst = (some 54)) ∧
  (p62_34_11.dst = (some 55)) ∧
  (p62_34_14.dst = (some 58)) ∧
  (p62_34_15.dst = (some 59)) ∧
  (p62_34_16.dst = (some 60)) ∧
  (p62_34_17.dst = (some 61)) ∧
  (p62_34_18.dst = (some 62)) ∧
  (p62_34_19.dst = (some 63)) ∧
  (p62_34_20.dst = (some 64)) ∧
  (p62_42_7.dst = (some 74)) ∧
  (p62_42_8.dst = (some 75)) ∧
  (p62_42_9.dst = (some 76)) ∧
  (p62_42_10.dst = (some 77)) ∧
  (p62_42_11.dst = (some 78)) ∧
  (p62_42_12.dst = (some 79)) ∧
  (p62_42_15.dst = (some 82)) ∧
  (p62_42_16.dst = (some 83)) ∧
  (p62_42_17.dst = (some 84)) ∧
  (p62_42_18.dst = (some 85)) ∧
  (p62_42_19.dst = (some 86)) ∧
  (p62_42_20.dst = (some 87)) ∧
  (p62_42_23.dst = (some 90)) ∧
  (p62_42_24.dst = (some 91)) ∧
  (p62_42_25.dst = (some 92)) ∧
  (p62_42_26.dst = (some 93)) ∧
  (p62_42_27.dst = (some 94)) ∧
  (p62_42_28.dst = (some 95)) := by
  repeat' apply And.intro
  all_goals kernel_rfl
set_option linter.defProp false in
/-- All of these. -/
def c62 := And.intro @c62s ( And.intro @c62r (@c62t))

theorem andS_no {f g : Int → Bool × Int} {p : Int} (h : (f p).1 = false) : andS f g p = (false, (f p).2) := if_pos h
theorem andS_yes {f g : Int → Bool × Int} {p : Int} (h : (f p).1 = true) : andS f g p = g (f p).2 := if_neg (by rw [h]; simp)
theorem andS_assoc (f g k : Int → Bool × Int) (p : Int) : andS (andS f g) k p = andS f (andS g k) p := by
  cases h : (f p).1
  · have e : andS f g p = (false, (f p).2) := andS_no h
    rw [andS_no h, andS_no (by rw [e]), e]
  · have e : andS f g p = g (f p).2 := andS_yes h
    rw [andS_yes h]
    unfold andS at e ⊢
    rw [e]
def lastS (n : Nat) (s : StT) (d : Int) : Int → Bool × Int := andS (exs40 s.lefts (d + 1)) (andS (exs40 s.exprs (d + 1)) (andS (rowS (fun x => stS n x (d + 1)) s.body) (rowS (fun x => stS n x (d + 1)) s.els)))
theorem stS_eq (n : Nat) (s : StT) (d p : Int) : stS (n + 1) s d p = andS (partS d) (andS (allowS (sizedS s && decide (s.cases.length ≤ 40))) (andS (if s.kind = 1 then fun p => tyS identS s.type (d + 1) p else allowS true) (andS (casS (stS n) d [] s.cases) (lastS n s d)))) p := rfl
theorem casS_cons (R : StT → Int → Int → Bool × Int) (d : Int) (seen : List Int) (k : CaT) (l : List CaT) : casS R d seen (k :: l) = andS (partS (d + 1)) (andS (allowS (!seen.contains k.int)) (andS (rowS (fun s => R s (d + 2)) k.body) (casS R d (seen ++ [k.int]) l))) := rfl
theorem app2 {α : Type} (A : List α) (a b : α) : A ++ [a, b] = (A ++ [a]) ++ [b] := by simp
theorem exs40_eq (l : List ExT) (d p : Int) : exs40 l d p = ((exsS l d p).1 && decide ((l.length : Int) ≤ 40), (exsS l d p).2) := by
  have e : decide ((l.length : Int) ≤ 40) = decide (l.length ≤ 40) := decide_eq_decide.2 (by omega)
  rw [e]
  unfold exs40
  cases h : (exsS l d p).1
  · rw [andS_no h, Bool.false_and]
  · rw [andS_yes h, Bool.true_and]
    rfl
set_option maxHeartbeats 8000000 in
theorem stmt_step (n : Nat) (s : StT) (hsb : ∀ x ∈ s.body, StmtOk n x) (hse : ∀ x ∈ s.els, StmtOk n x) (hsc : ∀ k ∈ s.cases, ∀ x ∈ k.body, StmtOk n x) : StmtOk (n + 1) s := by
  intro c d p B T hB hp hd
  obtain ⟨N, hn⟩ : ∃ N, B.length = N := ⟨_, rfl⟩
  have hc := (List.getElem?_eq_some_iff.1 hB).1
  have hi : c < N := by omega
  have hi1 : c < N + 1 := by omega
  have hN1 : N < N + 1 := by omega
  have hw1 := wrap_in (d + 1) (by omega)
  have hw2 := wrap_in (d + 2) (by omega)
  generalize hres : stS (n + 1) s d p = res
  rw [stS_eq] at hres
  have hpart := part_ab c d p (B ++ [stB s]) T (by rw [bx_old hc]; exact hB) hp
  have hsz := fun q : Int => sized_ab s (B.set c [.d (.int .i64 q)] ++ [stB s]) T
  unfold stV at hsz ⊢
  simp only [stB] at hpart hsz
  refine AFn.bodyE (body := k62_0) 97 Tryd.func62 (by kernel_rfl) (by kernel_rfl) (by kernel_rfl) (Nat.le_of_ble_eq_true rfl) fun hsm => ?_
  simp only [smL, sm, exV, stV, tyV, caV, paV, suV, fuV, prV, Bool.and_eq_true, decide_eq_true_eq, and_true, true_and, List.length_map, ssD_length] at hsm
  refine ARun.go 6 ?_
  simp -implicitDefEqProofs only [awC, awN, Nat.reduceAdd, Nat.reduceSub, Nat.reduceLT, Nat.reduceLeDiff, Nat.reduceEqDiff, Int.reduceToNat, Int.reduceEq, Int.reduceLT, Int.reduceLE, Int.reduceNeg, Int.reduceAdd, Int.reduceSub, Nat.reduceBEq, awT, c62, tys, hn, hi]
  refine ARun.join (fun _ : Unit => (envS 97 [(0, .ptr c 0), (2, .d (.int .i64 d)), (4, .ptr N 0)], ⟨B.set c [.d (.int .i64 (p + 1))] ++ [stB s], T⟩)) (fun _ => partOk d p = true ∧ sizedS s = true ∧ s.cases.length ≤ 40) ?_ ?_
  rotate_left
  · intro K' hK
    refine ARun.goJ 200 ?_
    simp -implicitDefEqProofs only [awC, awN, Nat.reduceAdd, Nat.reduceSub, Nat.reduceLT, Nat.reduceLeDiff, Nat.reduceEqDiff, Int.reduceToNat, Int.reduceEq, Int.reduceLT, Int.reduceLE, Int.reduceNeg, Int.reduceAdd, Int.reduceSub, Nat.reduceBEq, awT, c62, tys, hn, hi]
    refine callS_fn hpart ?_
    rintro _ _ ⟨rfl, rfl⟩
    refine ARun.goK 200 ?_
    simp -implicitDefEqProofs only [awC, awN, Nat.reduceAdd, Nat.reduceSub, Nat.reduceLT, Nat.reduceLeDiff, Nat.reduceEqDiff, Int.reduceToNat, Int.reduceEq, Int.reduceLT, Int.reduceLE, Int.reduceNeg, Int.reduceAdd, Int.reduceSub, Nat.reduceBEq, awT, c62, tys, hn, hi]
    cases hk : partOk d p
    · rw [andS_no (show (partS d p).1 = false from hk)] at hres
      simp -implicitDefEqProofs only [awC, awN, Nat.reduceAdd, Nat.reduceSub, Nat.reduceLT, Nat.reduceLeDiff, Nat.reduceEqDiff, Int.reduceToNat, Int.reduceEq, Int.reduceLT, Int.reduceLE, Int.reduceNeg, Int.reduceAdd, Int.reduceSub, Nat.reduceBEq, awT, c62, tys, hk, hn, hi]
      refine ARun.ret Tryd.func62 rfl (Left.set (by rfl) ?_)
      rw [← hres]
      (try clear ih)
      (try simp only [decide_eq_true_eq, decide_eq_false_iff_not, Bool.not_eq_true', Bool.not_eq_false'] at *)
      simp only [wk, Same, List.getD_cons_zero, List.getD_cons_succ, envS_get, envS_eval, lk_cons, lk_nil, Nat.reduceBEq, Nat.reduceAdd, Nat.reduceSub, cond_true, cond_false]
      simp [*]
      rfl
    · have hpo := partOk_in hk
      rw [andS_yes (show (partS d p).1 = true from hk)] at hres
      simp -implicitDefEqProofs only [awC, awN, Nat.reduceAdd, Nat.reduceSub, Nat.reduceLT, Nat.reduceLeDiff, Nat.reduceEqDiff, Int.reduceToNat, Int.reduceEq, Int.reduceLT, Int.reduceLE, Int.reduceNeg, Int.reduceAdd, Int.reduceSub, Nat.reduceBEq, awT, c62, tys, hk, hn, hi]
      refine callS_fn (hsz (p + 1)) ?_
      rintro _ _ ⟨rfl, rfl⟩
      refine ARun.goK 200 ?_
      simp -implicitDefEqProofs only [awC, awN, Nat.reduceAdd, Nat.reduceSub, Nat.reduceLT, Nat.reduceLeDiff, Nat.reduceEqDiff, Int.reduceToNat, Int.reduceEq, Int.reduceLT, Int.reduceLE, Int.reduceNeg, Int.reduceAdd, Int.reduceSub, Nat.reduceBEq, awT, c62, tys, hn, hi]
      cases hz : sizedS s
      · rw [andS_no (by rw [hz]; rfl)] at hres
        simp -implicitDefEqProofs only [awC, awN, Nat.reduceAdd, Nat.reduceSub, Nat.reduceLT, Nat.reduceLeDiff, Nat.reduceEqDiff, Int.reduceToNat, Int.reduceEq, Int.reduceLT, Int.reduceLE, Int.reduceNeg, Int.reduceAdd, Int.reduceSub, Nat.reduceBEq, awT, c62, tys, hk, hn, hi]
        refine ARun.ret Tryd.func62 rfl (Left.set (by rfl) ?_)
        rw [← hres]
        (try clear ih)
        (try simp only [decide_eq_true_eq, decide_eq_false_iff_not, Bool.not_eq_true', Bool.not_eq_false'] at *)
        simp only [wk, Same, List.getD_cons_zero, List.getD_cons_succ, envS_get, envS_eval, lk_cons, lk_nil, Nat.reduceBEq, Nat.reduceAdd, Nat.reduceSub, cond_true, cond_false]
        simp [*]
        rfl
      · simp -implicitDefEqProofs only [awC, awN, Nat.reduceAdd, Nat.reduceSub, Nat.reduceLT, Nat.reduceLeDiff, Nat.reduceEqDiff, Int.reduceToNat, Int.reduceEq, Int.reduceLT, Int.reduceLE, Int.reduceNeg, Int.reduceAdd, Int.reduceSub, Nat.reduceBEq, awT, c62, tys, hk, hn, hi]
        refine condS_of (fun h40 => ?_) (fun h40 => ?_)
        · rw [andS_no (by rw [hz, decide_eq_false (by have := of_decide_eq_true h40; omega)]; rfl)] at hres
          simp -implicitDefEqProofs only [awC, awN, Nat.reduceAdd, Nat.reduceSub, Nat.reduceLT, Nat.reduceLeDiff, Nat.reduceEqDiff, Int.reduceToNat, Int.reduceEq, Int.reduceLT, Int.reduceLE, Int.reduceNeg, Int.reduceAdd, Int.reduceSub, Nat.reduceBEq, awT, c62, tys, hk, hn, hi]
          refine ARun.ret Tryd.func62 rfl (Left.set (by rfl) ?_)
          rw [← hres]
          (try clear ih)
          (try simp only [decide_eq_true_eq, decide_eq_false_iff_not, Bool.not_eq_true', Bool.not_eq_false'] at *)
          simp only [wk, Same, List.getD_cons_zero, List.getD_cons_succ, envS_get, envS_eval, lk_cons, lk_nil, Nat.reduceBEq, Nat.reduceAdd, Nat.reduceSub, cond_true, cond_false]
          simp [*]
          rfl
        · simp -implicitDefEqProofs only [awC, awN, Nat.reduceAdd, Nat.reduceSub, Nat.reduceLT, Nat.reduceLeDiff, Nat.reduceEqDiff, Int.reduceToNat, Int.reduceEq, Int.reduceLT, Int.reduceLE, Int.reduceNeg, Int.reduceAdd, Int.reduceSub, Nat.reduceBEq, awT, c62, tys, hk, hn, hi]
          refine hK () ⟨hk, hz, by have := of_decide_eq_false h40; omega⟩ _ _ ?_ rfl
          refine Agree.env _ ?_
          simp only [agree_cons, agree_nil, eq_self, and_self, true_and, and_true, Int.natCast_add, Int.natCast_one, Int.natCast_zero, envS_get, envS_eval, lk_cons, lk_nil, Nat.reduceBEq, Nat.reduceAdd, Nat.reduceSub, cond_true, cond_false, hn]
  · rintro ⟨⟩ ⟨hk, hz, hcl⟩
    have hpo := partOk_in hk
    rw [andS_yes (show (partS d p).1 = true from hk), andS_yes (by simp [allowS, hz, hcl])] at hres
    change andS _ _ (p + 1) = res at hres
    clear hpart hsz
    dsimp only [stB]
    refine ARun.go 1 ?_
    simp -implicitDefEqProofs only [awC, awN, Nat.reduceAdd, Nat.reduceSub, Nat.reduceLT, Nat.reduceLeDiff, Nat.reduceEqDiff, Int.reduceToNat, Int.reduceEq, Int.reduceLT, Int.reduceLE, Int.reduceNeg, Int.reduceAdd, Int.reduceSub, Nat.reduceBEq, awT, c62, tys]
    refine ARun.join (fun q : Int => (envS 97 [(0, .ptr c 0), (2, .d (.int .i64 d)), (4, .ptr N 0)], ⟨B.set c [.d (.int .i64 q)] ++ [stB s], T⟩)) (fun q => (0 ≤ q ∧ q ≤ 60000) ∧ andS (casS (stS n) d [] s.cases) (lastS n s d) q = res) ?_ ?_
    rotate_left
    · intro K' hK
      by_cases k1 : s.kind = 1
      · rw [if_pos k1] at hres
        have e1 := decide_eq_true k1
        refine ARun.goJ 200 ?_
        simp -implicitDefEqProofs only [awC, awN, Nat.reduceAdd, Nat.reduceSub, Nat.reduceLT, Nat.reduceLeDiff, Nat.reduceEqDiff, Int.reduceToNat, Int.reduceEq, Int.reduceLT, Int.reduceLE, Int.reduceNeg, Int.reduceAdd, Int.reduceSub, Nat.reduceBEq, awT, c62, tys, hn, hi, hw1, e1]
        refine callS_fn (typ_ab s.type c (d + 1) (p + 1) _ T (by rw [bx_old (by simp; omega)]; exact bx_get hc) ⟨by omega, by omega⟩ ⟨by omega, by omega⟩) ?_
        rintro _ _ ⟨rfl, rfl⟩
        have hok := tyS_ok identS s.type (d + 1) (p + 1)
        obtain ⟨⟨b, q⟩, hty⟩ : ∃ r, tyS identS s.type (d + 1) (p + 1) = r := ⟨_, rfl⟩
        rw [hty] at hok
        refine ARun.goK 200 ?_
        simp -implicitDefEqProofs only [awC, awN, Nat.reduceAdd, Nat.reduceSub, Nat.reduceLT, Nat.reduceLeDiff, Nat.reduceEqDiff, Int.reduceToNat, Int.reduceEq, Int.reduceLT, Int.reduceLE, Int.reduceNeg, Int.reduceAdd, Int.reduceSub, Nat.reduceBEq, awT, c62, tys, hn, hi, hty]
        cases b
        · rw [andS_no (by rw [hty]), hty] at hres
          simp -implicitDefEqProofs only [awC, awN, Nat.reduceAdd, Nat.reduceSub, Nat.reduceLT, Nat.reduceLeDiff, Nat.reduceEqDiff, Int.reduceToNat, Int.reduceEq, Int.reduceLT, Int.reduceLE, Int.reduceNeg, Int.reduceAdd, Int.reduceSub, Nat.reduceBEq, awT, c62, tys, hn, hi]
          refine ARun.ret Tryd.func62 rfl (Left.set (by rfl) ?_)
          rw [← hres]
          (try clear ih)
          (try simp only [decide_eq_true_eq, decide_eq_false_iff_not, Bool.not_eq_true', Bool.not_eq_false'] at *)
          simp only [wk, Same, List.getD_cons_zero, List.getD_cons_succ, envS_get, envS_eval, lk_cons, lk_nil, Nat.reduceBEq, Nat.reduceAdd, Nat.reduceSub, cond_true, cond_false]
          simp [*]
          skip
        · rw [andS_yes (by rw [hty]), hty] at hres
          have hok := hok rfl
          simp -implicitDefEqProofs only [awC, awN, Nat.reduceAdd, Nat.reduceSub, Nat.reduceLT, Nat.reduceLeDiff, Nat.reduceEqDiff, Int.reduceToNat, Int.reduceEq, Int.reduceLT, Int.reduceLE, Int.reduceNeg, Int.reduceAdd, Int.reduceSub, Nat.reduceBEq, awT, c62, tys, hn, hi]
          refine hK q ⟨⟨by omega, hok.2⟩, hres⟩ _ _ ?_ rfl
          refine Agree.env _ ?_
          simp only [agree_cons, agree_nil, eq_self, and_self, true_and, and_true, Int.natCast_add, Int.natCast_one, Int.natCast_zero, envS_get, envS_eval, lk_cons, lk_nil, Nat.reduceBEq, Nat.reduceAdd, Nat.reduceSub, cond_true, cond_false, hn]
      · rw [if_neg k1, andS_yes rfl] at hres
        have e1 := decide_eq_false k1
        refine ARun.goJ 200 ?_
        simp -implicitDefEqProofs only [awC, awN, Nat.reduceAdd, Nat.reduceSub, Nat.reduceLT, Nat.reduceLeDiff, Nat.reduceEqDiff, Int.reduceToNat, Int.reduceEq, Int.reduceLT, Int.reduceLE, Int.reduceNeg, Int.reduceAdd, Int.reduceSub, Nat.reduceBEq, awT, c62, tys, hn, hi, hw1, e1]
        refine hK (p + 1) ⟨⟨by omega, hpo.1⟩, hres⟩ _ _ ?_ rfl
        refine Agree.env _ ?_
        simp only [agree_cons, agree_nil, eq_self, and_self, true_and, and_true, Int.natCast_add, Int.natCast_one, Int.natCast_zero, envS_get, envS_eval, lk_cons, lk_nil, Nat.reduceBEq, Nat.reduceAdd, Nat.reduceSub, cond_true, cond_false, hn]
    · rintro q ⟨hq, hres2⟩
      clear hres
      dsimp only [stB]
      refine ARun.go 20 ?_
      simp -implicitDefEqProofs only [awC, awN, Nat.reduceAdd, Nat.reduceSub, Nat.reduceLT, Nat.reduceLeDiff, Nat.reduceEqDiff, Int.reduceToNat, Int.reduceEq, Int.reduceLT, Int.reduceLE, Int.reduceNeg, Int.reduceAdd, Int.reduceSub, Nat.reduceBEq, awT, c62, tys, hn, hi]
      refine ARun.fits fun hf => ?_
      have hf2 : ∀ q' : Int, Fits ⟨B.set c [.d (.int .i64 q')] ++ [[.d (.int .i64 s.kind), .d (.sl (ssD s.names)), .d (.int .i64 s.type.kind), .d (.str s.type.name), .d (.sl (s.type.elem.map tyD)), .d (.sl (s.lefts.map exD)), .d (.sl (s.exprs.map exD)), .d (.sl (s.body.map stD)), .d (.sl (s.els.map stD)), .d (.sl (s.cases.map caD))]], T⟩ := fun q' => by
        have := hf.set (i := c) (vs := [.d (.int .i64 q')]) rfl
        rwa [bx_set_old (by simp; omega), List.set_set] at this
      refine ARun.small fun hsm2 => ?_
      have hcl2 : (s.cases.length : Int) ≤ 40 := by omega
      clear hsm2
      refine ARun.loopB (fun a : Nat × Int => (envS 97 [(0, .ptr c 0), (2, .d (.int .i64 d)), (4, .ptr N 0), (37, .d (.sl (s.cases.map caD))), (38, .d (.int .i64 s.cases.length)), (39, .d (.int .i64 a.1))], ⟨B.set c [.d (.int .i64 a.2)] ++ [[.d (.int .i64 s.kind), .d (.sl (ssD s.names)), .d (.int .i64 s.type.kind), .d (.str s.type.name), .d (.sl (s.type.elem.map tyD)), .d (.sl (s.lefts.map exD)), .d (.sl (s.exprs.map exD)), .d (.sl (s.body.map stD)), .d (.sl (s.els.map stD)), .d (.sl (s.cases.map caD))]], T⟩)) (fun a => a.1 ≤ s.cases.length ∧ (0 ≤ a.2 ∧ a.2 ≤ 60000) ∧ andS (casS (stS n) d ((s.cases.take a.1).map CaT.int) (s.cases.drop a.1)) (lastS n s d) a.2 = res) (fun a => s.cases.length - a.1) (0, q) ⟨by omega, hq, hres2⟩ ?_ rfl ?_
      · skip
        refine Agree.env _ ?_
        simp only [agree_cons, agree_nil, eq_self, and_self, true_and, and_true, Int.natCast_add, Int.natCast_one, Int.natCast_zero, envS_get, envS_eval, lk_cons, lk_nil, Nat.reduceBEq, Nat.reduceAdd, Nat.reduceSub, cond_true, cond_false, hn]
      rintro ⟨i, r⟩ ⟨h1, h2, h3⟩ ih
      dsimp only at h1 h2 h3 ih ⊢
      by_cases hlt : i < s.cases.length
      · have hw := wrap_in ((i : Int) + 1) (by omega)
        have hg := List.getElem?_eq_getElem hlt
        have hlt' : decide ((i : Int) < (s.cases.length : Int)) = true := decide_eq_true (by omega)
        have hle : (i : Int) ≤ (s.cases.length : Int) := by omega
        have hle' : decide ((i : Int) ≤ (s.cases.length : Int)) = true := decide_eq_true hle
        rw [drop_get hlt, casS_cons, andS_assoc] at h3
        obtain ⟨x, hx⟩ : ∃ x, s.cases[i] = x := ⟨_, rfl⟩
        rw [hx] at hg h3
        have hmt : (s.cases.map caD).take i = (s.cases.take i).map caD := (List.map_take).symm
        have hpart := part_ab c (d + 1) r
        refine ARun.go 200 ?_
        simp -implicitDefEqProofs only [awC, awN, Nat.reduceAdd, Nat.reduceSub, Nat.reduceLT, Nat.reduceLeDiff, Nat.reduceEqDiff, Int.reduceToNat, Int.reduceEq, Int.reduceLT, Int.reduceLE, Int.reduceNeg, Int.reduceAdd, Int.reduceSub, Nat.reduceBEq, awT, c62, tys, hn, hi, hw1, List.getElem?_map, hg, hlt', caD_eq]
        refine callS_fn (hpart _ T (by rw [bx_old (by simp; omega)]; exact bx_get hc) h2) ?_
        rintro _ _ ⟨rfl, rfl⟩
        refine ARun.go 200 ?_
        simp -implicitDefEqProofs only [awC, awN, Nat.reduceAdd, Nat.reduceSub, Nat.reduceLT, Nat.reduceLeDiff, Nat.reduceEqDiff, Int.reduceToNat, Int.reduceEq, Int.reduceLT, Int.reduceLE, Int.reduceNeg, Int.reduceAdd, Int.reduceSub, Nat.reduceBEq, awT, c62, tys, hn, hi, hw1]
        cases hk2 : partOk (d + 1) r
        · rw [andS_no (show (partS (d + 1) r).1 = false from hk2)] at h3
          simp -implicitDefEqProofs only [awC, awN, Nat.reduceAdd, Nat.reduceSub, Nat.reduceLT, Nat.reduceLeDiff, Nat.reduceEqDiff, Int.reduceToNat, Int.reduceEq, Int.reduceLT, Int.reduceLE, Int.reduceNeg, Int.reduceAdd, Int.reduceSub, Nat.reduceBEq, awT, c62, tys, hn, hi, hk2]
          refine ARun.ret Tryd.func62 rfl (Left.set (by rfl) ?_)
          rw [← h3]
          (try clear ih)
          (try simp only [decide_eq_true_eq, decide_eq_false_iff_not, Bool.not_eq_true', Bool.not_eq_false'] at *)
          simp only [wk, Same, List.getD_cons_zero, List.getD_cons_succ, envS_get, envS_eval, lk_cons, lk_nil, Nat.reduceBEq, Nat.reduceAdd, Nat.reduceSub, cond_true, cond_false]
          simp [*]
          rfl
        · have hpo2 := partOk_in hk2
          rw [andS_yes (show (partS (d + 1) r).1 = true from hk2), andS_assoc] at h3
          change andS _ _ (r + 1) = res at h3
          simp -implicitDefEqProofs only [awC, awN, Nat.reduceAdd, Nat.reduceSub, Nat.reduceLT, Nat.reduceLeDiff, Nat.reduceEqDiff, Int.reduceToNat, Int.reduceEq, Int.reduceLT, Int.reduceLE, Int.reduceNeg, Int.reduceAdd, Int.reduceSub, Nat.reduceBEq, awT, c62, tys, hn, hi, hk2, hle, hle', hmt]
          have hcf := fun S => containsFunc_Case 69 [] [.ptr (N + 1) 0] (fun _ : Unit => S) (fun y s => (decide (y.int = x.int), s)) (fun _ _ => ⟨rfl, rfl⟩) (s.cases.take i) (by simp; omega) ()
          refine callS_fn (hcf _ (good_of (s.cases.take i) fun y _ => stmt1_ab x y (N + 1) _ _ T (by rw [bx_loc (by simpa using hn)]; rfl))) ?_
          rintro _ _ ⟨rfl, rfl⟩
          rw [anyF_unit, case_seen]
          refine ARun.go 200 ?_
          simp -implicitDefEqProofs only [awC, awN, Nat.reduceAdd, Nat.reduceSub, Nat.reduceLT, Nat.reduceLeDiff, Nat.reduceEqDiff, Int.reduceToNat, Int.reduceEq, Int.reduceLT, Int.reduceLE, Int.reduceNeg, Int.reduceAdd, Int.reduceSub, Nat.reduceBEq, awT, c62, tys, hn, hi, hw2]
          cases hcs : ((s.cases.take i).map CaT.int).contains x.int
          · rw [andS_yes (by rw [hcs]; rfl), andS_assoc] at h3
            change andS _ _ (r + 1) = res at h3
            simp -implicitDefEqProofs only [awC, awN, Nat.reduceAdd, Nat.reduceSub, Nat.reduceLT, Nat.reduceLeDiff, Nat.reduceEqDiff, Int.reduceToNat, Int.reduceEq, Int.reduceLT, Int.reduceLE, Int.reduceNeg, Int.reduceAdd, Int.reduceSub, Nat.reduceBEq, awT, c62, tys, hn, hi, hcs, hw2]
            refine callS_fn (stmts_ab n x.body (hsc x (by rw [← hx]; exact List.getElem_mem hlt)) c (d + 2) (r + 1) _ T (by rw [bx_old (by simp; omega)]; exact bx_get hc) ⟨by omega, hpo2.1⟩ ⟨by omega, by omega⟩) ?_
            rintro _ _ ⟨rfl, rfl⟩
            have hup := (Cnts.row (f := fun s => stS n s (d + 2)) (c := stC n) x.body fun y _ => Cnts.st n y (d + 2)).up (r + 1)
            have hbn := Bnds.row (f := fun s => stS n s (d + 2)) (fun y => Bnds.st n y (d + 2)) x.body (r + 1) hpo2.1
            obtain ⟨⟨b, q2⟩, hrow⟩ : ∃ z, rowS (fun s => stS n s (d + 2)) x.body (r + 1) = z := ⟨_, rfl⟩
            rw [hrow] at hup hbn
            refine ARun.go 200 ?_
            simp -implicitDefEqProofs only [awC, awN, Nat.reduceAdd, Nat.reduceSub, Nat.reduceLT, Nat.reduceLeDiff, Nat.reduceEqDiff, Int.reduceToNat, Int.reduceEq, Int.reduceLT, Int.reduceLE, Int.reduceNeg, Int.reduceAdd, Int.reduceSub, Nat.reduceBEq, awT, c62, tys, hn, hi, hrow]
            cases b
            · rw [andS_no (by rw [hrow]), hrow] at h3
              simp -implicitDefEqProofs only [awC, awN, Nat.reduceAdd, Nat.reduceSub, Nat.reduceLT, Nat.reduceLeDiff, Nat.reduceEqDiff, Int.reduceToNat, Int.reduceEq, Int.reduceLT, Int.reduceLE, Int.reduceNeg, Int.reduceAdd, Int.reduceSub, Nat.reduceBEq, awT, c62, tys, hn, hi]
              refine ARun.ret Tryd.func62 rfl (Left.set (by rfl) ?_)
              rw [← h3]
              (try clear ih)
              (try simp only [decide_eq_true_eq, decide_eq_false_iff_not, Bool.not_eq_true', Bool.not_eq_false'] at *)
              simp only [wk, Same, List.getD_cons_zero, List.getD_cons_succ, envS_get, envS_eval, lk_cons, lk_nil, Nat.reduceBEq, Nat.reduceAdd, Nat.reduceSub, cond_true, cond_false]
              simp [*]
              skip
            · rw [andS_yes (by rw [hrow]), hrow] at h3
              have hup := hup rfl
              have hbn := hbn rfl
              simp -implicitDefEqProofs only [awC, awN, Nat.reduceAdd, Nat.reduceSub, Nat.reduceLT, Nat.reduceLeDiff, Nat.reduceEqDiff, Int.reduceToNat, Int.reduceEq, Int.reduceLT, Int.reduceLE, Int.reduceNeg, Int.reduceAdd, Int.reduceSub, Nat.reduceBEq, awT, c62, tys, hn, hi, hw]
              have hstep : (s.cases.take (i + 1)).map CaT.int = (s.cases.take i).map CaT.int ++ [x.int] := by
                rw [List.take_succ_eq_append_getElem hlt, List.map_append, hx]
                rfl
              rw [app2]
              refine ih (i + 1, q2) ⟨hlt, ⟨by dsimp only; omega, hbn⟩, ?_⟩ (by dsimp only; omega) _ _ _ _ rfl ⟨by simp; omega, Nat.le_refl _⟩ (hf2 q2) ?_
              · dsimp only
                rw [hstep]
                exact h3
              · skip
                refine AgreeF.env _ ?_
                simp only [agreeF_cons, agreeF_nil, fit, fitL, eq_self, and_self, true_and, and_true, Bool.and_true, Bool.true_and, Bool.and_self, decide_true, List.length_set, Int.natCast_add, Int.natCast_one, Int.natCast_zero, envS_get, envS_eval, lk_cons, lk_nil, Nat.reduceBEq, Nat.reduceAdd, Nat.reduceSub, cond_true, cond_false, hn, List.length_append, List.length_cons, List.length_nil, Nat.zero_add, hi1, hN1]
          · rw [andS_no (by rw [hcs]; rfl)] at h3
            simp -implicitDefEqProofs only [awC, awN, Nat.reduceAdd, Nat.reduceSub, Nat.reduceLT, Nat.reduceLeDiff, Nat.reduceEqDiff, Int.reduceToNat, Int.reduceEq, Int.reduceLT, Int.reduceLE, Int.reduceNeg, Int.reduceAdd, Int.reduceSub, Nat.reduceBEq, awT, c62, tys, hn, hi, hcs]
            refine ARun.ret Tryd.func62 rfl (Left.set (by rfl) ?_)
            rw [← h3]
            (try clear ih)
            (try simp only [decide_eq_true_eq, decide_eq_false_iff_not, Bool.not_eq_true', Bool.not_eq_false'] at *)
            simp only [wk, Same, List.getD_cons_zero, List.getD_cons_succ, envS_get, envS_eval, lk_cons, lk_nil, Nat.reduceBEq, Nat.reduceAdd, Nat.reduceSub, cond_true, cond_false]
            simp [*]
            rfl
      · have hlt' : decide ((i : Int) < (s.cases.length : Int)) = false := decide_eq_false (by omega)
        rw [List.drop_eq_nil_of_le (by omega), andS_yes rfl] at h3
        change lastS n s d r = res at h3
        unfold lastS at h3
        refine ARun.go 200 ?_
        simp -implicitDefEqProofs only [awC, awN, Nat.reduceAdd, Nat.reduceSub, Nat.reduceLT, Nat.reduceLeDiff, Nat.reduceEqDiff, Int.reduceToNat, Int.reduceEq, Int.reduceLT, Int.reduceLE, Int.reduceNeg, Int.reduceAdd, Int.reduceSub, Nat.reduceBEq, awT, c62, tys, hn, hi, hlt', hw1]
        refine callS_fn (exprs_ab s.lefts (fun x _ => expr_ab x) c (d + 1) 40 r _ T (by rw [bx_old (by simp; omega)]; exact bx_get hc) h2 ⟨by omega, by omega⟩) ?_
        rintro _ _ ⟨rfl, rfl⟩
        have hup := (Cnts.exs40 s.lefts (d + 1)).up r
        have hbn := Bnds.exs40 s.lefts (d + 1) r h2.2
        have he := exs40_eq s.lefts (d + 1) r
        obtain ⟨⟨b1, q1⟩, hq1⟩ : ∃ z, exs40 s.lefts (d + 1) r = z := ⟨_, rfl⟩
        rw [hq1] at hup hbn he
        obtain ⟨he1, he2⟩ := Prod.mk.inj he
        rw [← he1, ← he2]
        clear he he1 he2
        refine ARun.go 200 ?_
        simp -implicitDefEqProofs only [awC, awN, Nat.reduceAdd, Nat.reduceSub, Nat.reduceLT, Nat.reduceLeDiff, Nat.reduceEqDiff, Int.reduceToNat, Int.reduceEq, Int.reduceLT, Int.reduceLE, Int.reduceNeg, Int.reduceAdd, Int.reduceSub, Nat.reduceBEq, awT, c62, tys, hn, hi, hw1]
        cases b1
        · rw [andS_no (by rw [hq1]), hq1] at h3
          simp -implicitDefEqProofs only [awC, awN, Nat.reduceAdd, Nat.reduceSub, Nat.reduceLT, Nat.reduceLeDiff, Nat.reduceEqDiff, Int.reduceToNat, Int.reduceEq, Int.reduceLT, Int.reduceLE, Int.reduceNeg, Int.reduceAdd, Int.reduceSub, Nat.reduceBEq, awT, c62, tys, hn, hi, hw1]
          refine ARun.ret Tryd.func62 rfl (Left.set (by rfl) ?_)
          rw [← h3]
          (try clear ih)
          (try simp only [decide_eq_true_eq, decide_eq_false_iff_not, Bool.not_eq_true', Bool.not_eq_false'] at *)
          simp only [wk, Same, List.getD_cons_zero, List.getD_cons_succ, envS_get, envS_eval, lk_cons, lk_nil, Nat.reduceBEq, Nat.reduceAdd, Nat.reduceSub, cond_true, cond_false]
          simp [*]
          skip
        rw [andS_yes (by rw [hq1]), hq1] at h3
        dsimp only at h3
        have hup1 := hup rfl
        have hbn1 := hbn rfl
        dsimp only at hup1 hbn1
        simp -implicitDefEqProofs only [awC, awN, Nat.reduceAdd, Nat.reduceSub, Nat.reduceLT, Nat.reduceLeDiff, Nat.reduceEqDiff, Int.reduceToNat, Int.reduceEq, Int.reduceLT, Int.reduceLE, Int.reduceNeg, Int.reduceAdd, Int.reduceSub, Nat.reduceBEq, awT, c62, tys, hn, hi, hw1]
        refine callS_fn (exprs_ab s.exprs (fun x _ => expr_ab x) c (d + 1) 40 q1 _ T (by rw [bx_old (by simp; omega)]; exact bx_get hc) ⟨by omega, hbn1⟩ ⟨by omega, by omega⟩) ?_
        rintro _ _ ⟨rfl, rfl⟩
        have hup := (Cnts.exs40 s.exprs (d + 1)).up q1
        have hbn := Bnds.exs40 s.exprs (d + 1) q1 hbn1
        have he := exs40_eq s.exprs (d + 1) q1
        obtain ⟨⟨b2, q2⟩, hq2⟩ : ∃ z, exs40 s.exprs (d + 1) q1 = z := ⟨_, rfl⟩
        rw [hq2] at hup hbn he
        obtain ⟨he1, he2⟩ := Prod.mk.inj he
        rw [← he1, ← he2]
        clear he he1 he2
        refine ARun.go 200 ?_
        simp -implicitDefEqProofs only [awC, awN, Nat.reduceAdd, Nat.reduceSub, Nat.reduceLT, Nat.reduceLeDiff, Nat.reduceEqDiff, Int.reduceToNat, Int.reduceEq, Int.reduceLT, Int.reduceLE, Int.reduceNeg, Int.reduceAdd, Int.reduceSub, Nat.reduceBEq, awT, c62, tys, hn, hi, hw1]
        cases b2
        · rw [andS_no (by rw [hq2]), hq2] at h3
          simp -implicitDefEqProofs only [awC, awN, Nat.reduceAdd, Nat.reduceSub, Nat.reduceLT, Nat.reduceLeDiff, Nat.reduceEqDiff, Int.reduceToNat, Int.reduceEq, Int.reduceLT, Int.reduceLE, Int.reduceNeg, Int.reduceAdd, Int.reduceSub, Nat.reduceBEq, awT, c62, tys, hn, hi, hw1]
          refine ARun.ret Tryd.func62 rfl (Left.set (by rfl) ?_)
          rw [← h3]
          (try clear ih)
          (try simp only [decide_eq_true_eq, decide_eq_false_iff_not, Bool.not_eq_true', Bool.not_eq_false'] at *)
          simp only [wk, Same, List.getD_cons_zero, List.getD_cons_succ, envS_get, envS_eval, lk_cons, lk_nil, Nat.reduceBEq, Nat.reduceAdd, Nat.reduceSub, cond_true, cond_false]
          simp [*]
          skip
        rw [andS_yes (by rw [hq2]), hq2] at h3
        dsimp only at h3
        have hup2 := hup rfl
        have hbn2 := hbn rfl
        dsimp only at hup2 hbn2
        simp -implicitDefEqProofs only [awC, awN, Nat.reduceAdd, Nat.reduceSub, Nat.reduceLT, Nat.reduceLeDiff, Nat.reduceEqDiff, Int.reduceToNat, Int.reduceEq, Int.reduceLT, Int.reduceLE, Int.reduceNeg, Int.reduceAdd, Int.reduceSub, Nat.reduceBEq, awT, c62, tys, hn, hi, hw1]
        refine callS_fn (stmts_ab n s.body hsb c (d + 1) q2 _ T (by rw [bx_old (by simp; omega)]; exact bx_get hc) ⟨by omega, hbn2⟩ ⟨by omega, by omega⟩) ?_
        rintro _ _ ⟨rfl, rfl⟩
        have hup := (Cnts.row (f := fun s => stS n s (d + 1)) (c := stC n) s.body fun y _ => Cnts.st n y (d + 1)).up q2
        have hbn := Bnds.row (f := fun s => stS n s (d + 1)) (fun y => Bnds.st n y (d + 1)) s.body q2 hbn2
        obtain ⟨⟨b3, q3⟩, hq3⟩ : ∃ z, rowS (fun s => stS n s (d + 1)) s.body q2 = z := ⟨_, rfl⟩
        rw [hq3] at hup hbn
        refine ARun.go 200 ?_
        simp -implicitDefEqProofs only [awC, awN, Nat.reduceAdd, Nat.reduceSub, Nat.reduceLT, Nat.reduceLeDiff, Nat.reduceEqDiff, Int.reduceToNat, Int.reduceEq, Int.reduceLT, Int.reduceLE, Int.reduceNeg, Int.reduceAdd, Int.reduceSub, Nat.reduceBEq, awT, c62, tys, hn, hi, hw1, hq3]
        cases b3
        · rw [andS_no (by rw [hq3]), hq3] at h3
          simp -implicitDefEqProofs only [awC, awN, Nat.reduceAdd, Nat.reduceSub, Nat.reduceLT, Nat.reduceLeDiff, Nat.reduceEqDiff, Int.reduceToNat, Int.reduceEq, Int.reduceLT, Int.reduceLE, Int.reduceNeg, Int.reduceAdd, Int.reduceSub, Nat.reduceBEq, awT, c62, tys, hn, hi, hw1]
          refine ARun.ret Tryd.func62 rfl (Left.set (by rfl) ?_)
          rw [← h3]
          (try clear ih)
          (try simp only [decide_eq_true_eq, decide_eq_false_iff_not, Bool.not_eq_true', Bool.not_eq_false'] at *)
          simp only [wk, Same, List.getD_cons_zero, List.getD_cons_succ, envS_get, envS_eval, lk_cons, lk_nil, Nat.reduceBEq, Nat.reduceAdd, Nat.reduceSub, cond_true, cond_false]
          simp [*]
          skip
        rw [andS_yes (by rw [hq3]), hq3] at h3
        dsimp only at h3
        have hup3 := hup rfl
        have hbn3 := hbn rfl
        dsimp only at hup3 hbn3
        simp -implicitDefEqProofs only [awC, awN, Nat.reduceAdd, Nat.reduceSub, Nat.reduceLT, Nat.reduceLeDiff, Nat.reduceEqDiff, Int.reduceToNat, Int.reduceEq, Int.reduceLT, Int.reduceLE, Int.reduceNeg, Int.reduceAdd, Int.reduceSub, Nat.reduceBEq, awT, c62, tys, hn, hi, hw1]
        refine callS_fn (stmts_ab n s.els hse c (d + 1) q3 _ T (by rw [bx_old (by simp; omega)]; exact bx_get hc) ⟨by omega, hbn3⟩ ⟨by omega, by omega⟩) ?_
        rintro _ _ ⟨rfl, rfl⟩
        rw [h3]
        refine ARun.go 200 ?_
        simp -implicitDefEqProofs only [awC, awN, Nat.reduceAdd, Nat.reduceSub, Nat.reduceLT, Nat.reduceLeDiff, Nat.reduceEqDiff, Int.reduceToNat, Int.reduceEq, Int.reduceLT, Int.reduceLE, Int.reduceNeg, Int.reduceAdd, Int.reduceSub, Nat.reduceBEq, awT, c62, tys, hn, hi, hw1]
        refine ARun.ret Tryd.func62 rfl (Left.set (by rfl) ?_)
        (try clear ih)
        (try simp only [decide_eq_true_eq, decide_eq_false_iff_not, Bool.not_eq_true', Bool.not_eq_false'] at *)
        simp only [wk, Same, List.getD_cons_zero, List.getD_cons_succ, envS_get, envS_eval, lk_cons, lk_nil, Nat.reduceBEq, Nat.reduceAdd, Nat.reduceSub, cond_true, cond_false]
        simp [*]
        skip
/-- All statements within lie less than n deep. -/
def Dp : Nat → StT → Prop
  | 0, _ => False
  | n + 1, s => (∀ x ∈ s.body, Dp n x) ∧ (∀ x ∈ s.els, Dp n x) ∧ ∀ k ∈ s.cases, ∀ x ∈ k.body, Dp n x
theorem stmt_ab : ∀ (n : Nat) (s : StT), Dp n s → StmtOk n s
  | 0, _, h => h.elim
  | n + 1, s, h => stmt_step n s (fun x hx => stmt_ab n x (h.1 x hx)) (fun x hx => stmt_ab n x (h.2.1 x hx)) (fun k hk x hx => stmt_ab n x (h.2.2 k hk x hx))
theorem Dp.of_size : ∀ (n : Nat) (s : StT), SizeOf.sizeOf s ≤ n → Dp n s
  | 0, s, h => by
    cases s with
    | mk k ns ty ls es b e cs => simp at h
  | n + 1, s, h => by
    cases s with
    | mk k ns ty ls es b e cs =>
      have h0 : 1 + SizeOf.sizeOf b + SizeOf.sizeOf e + SizeOf.sizeOf cs ≤ n + 1 := by
        simp only [StT.mk.sizeOf_spec] at h
        omega
      refine ⟨fun x hx => Dp.of_size n x ?_, fun x hx => Dp.of_size n x ?_, fun c hc x hx => Dp.of_size n x ?_⟩
      · have := List.sizeOf_lt_of_mem (show x ∈ b from hx)
        omega
      · have := List.sizeOf_lt_of_mem (show x ∈ e from hx)
        omega
      · have h1 := List.sizeOf_lt_of_mem (show c ∈ cs from hc)
        have h2 := List.sizeOf_lt_of_mem hx
        have h3 : SizeOf.sizeOf c.body ≤ SizeOf.sizeOf c := by
          cases c with
          | mk i b => simp only [CaT.body, CaT.mk.sizeOf_spec]; omega
        omega
end Go.Proofs.YtombghldgdcjcaaDoor

/- The checker: parameters. -/
namespace Go.Proofs.YtombghldgdcjcaaDoor
open Go.RowKit Go.Av Go.Ab
set_option linter.unusedSimpArgs false
set_option maxRecDepth 100000
noncomputable def k36_0 : Code := bodyOf Tryd.f36
noncomputable def k36_1 : Code := lft k36_0
noncomputable def o36_1 : Array Oper := opsOf k36_1
noncomputable def k36_2 : Code := rgt k36_0
noncomputable def k36_3 : Code := lft k36_2
noncomputable def o36_3 : Array Oper := opsOf k36_3
noncomputable def k36_4 : Code := rgt k36_2
noncomputable def k36_5 : Code := lft k36_4
noncomputable def k36_6 : Code := lft k36_5
noncomputable def o36_6 : Array Oper := opsOf k36_6
noncomputable def k36_7 : Code := rgt k36_5
noncomputable def k36_8 : Code := lft k36_7
noncomputable def k36_9 : Code := lft k36_8
noncomputable def k36_10 : Code := lft k36_9
noncomputable def o36_10 : Array Oper := opsOf k36_10
noncomputable def k36_11 : Code := rgt k36_9
noncomputable def k36_12 : Code := lft k36_11
noncomputable def k36_13 : Code := lft k36_12
noncomputable def k36_14 : Code := rgt k36_12
noncomputable def k36_15 : Code := rgt k36_11
noncomputable def k36_16 : Code := lft k36_15
noncomputable def k36_17 : Code := lft k36_16
noncomputable def k36_18 : Code := lft k36_17
noncomputable def o36_18 : Array Oper := opsOf k36_18
noncomputable def k36_19 : Code := rgt k36_17
noncomputable def k36_20 : Code := lft k36_19
noncomputable def o36_20 : Array Oper := opsOf k36_20
noncomputable def k36_21 : Code := rgt k36_19
noncomputable def k36_22 : Code := lft k36_21
noncomputable def o36_22 : Array Oper := opsOf k36_22
noncomputable def p36_22_4 : Oper := opAt o36_22 4
noncomputable def p36_22_5 : Oper := opAt o36_22 5
noncomputable def p36_22_6 : Oper := opAt o36_22 6
noncomputable def p36_22_7 : Oper := opAt o36_22 7
noncomputable def p36_22_8 : Oper := opAt o36_22 8
noncomputable def k36_23 : Code := rgt k36_21
noncomputable def k36_24 : Code := lft k36_23
noncomputable def k36_25 : Code := lft k36_24
noncomputable def o36_25 : Array Oper := opsOf k36_25
noncomputable def k36_26 : Code := rgt k36_24
noncomputable def k36_27 : Code := rgt k36_23
noncomputable def k36_28 : Code := rgt k36_15
noncomputable def o36_28 : Array Oper := opsOf k36_28
noncomputable def k36_29 : Code := rgt k36_4
noncomputable def k36_30 : Code := lft k36_29
noncomputable def o36_30 : Array Oper := opsOf k36_30
noncomputable def p36_30_5 : Oper := opAt o36_30 5
noncomputable def p36_30_6 : Oper := opAt o36_30 6
noncomputable def k36_31 : Code := rgt k36_29
theorem c36s (I : Inv) (next stop : Cont) (k : List Item) (env : List V) (S : Mem) : (codeS I next stop k36_1 k env S = next (.inRegion o36_1 [0] :: k) env S) ∧
  (codeS I next stop k36_3 k env S = next (.inRegion o36_3 [0] :: k) env S) ∧
  (codeS I next stop k36_6 k env S = next (.inRegion o36_6 [0, 1, 2] :: k) env S) ∧
  (codeS I next stop k36_10 k env S = next (.inRegion o36_10 [0] :: k) env S) ∧
  (codeS I next stop k36_13 k env S = next k env S) ∧
  (codeS I next stop k36_14 k env S = exitV next (exitTo 0 k) env S) ∧
  (codeS I next stop k36_12 k env S = condV next (evalV I env (.tmp 13)) k36_13 k36_14 k env S) ∧
  (codeS I next stop k36_18 k env S = next (.inRegion o36_18 [0, 1, 2, 3] :: k) env S) ∧
  (codeS I next stop k36_20 k env S = next (.inRegion o36_20 [0, 1, 2, 3, 4, 5] :: k) env S) ∧
  (codeS I next stop k36_22 k env S = next (.inRegion o36_22 [0, 1, 2, 3, 4, 5, 6, 7, 8, 9] :: k) env S) ∧
  (codeS I next stop k36_25 k env S = next (.inRegion o36_25 [0] :: k) env S) ∧
  (codeS I next stop k36_26 k env S = stop (.code .ret :: k) env S) ∧
  (codeS I next stop k36_24 k env S = next (.code k36_25 :: .code k36_26 :: k) env S) ∧
  (codeS I next stop k36_27 k env S = next k env S) ∧
  (codeS I next stop k36_23 k env S = condV next (evalV I env (.tmp 30)) k36_24 k36_27 k env S) ∧
  (codeS I next stop k36_21 k env S = next (.code k36_22 :: .code k36_23 :: k) env S) ∧
  (codeS I next stop k36_19 k env S = next (.code k36_20 :: .code k36_21 :: k) env S) ∧
  (codeS I next stop k36_17 k env S = next (.code k36_18 :: .code k36_19 :: k) env S) ∧
  (codeS I next stop k36_16 k env S = next (.code k36_17 :: .inBlock 1 :: k) env S) ∧
  (codeS I next stop k36_28 k env S = next (.inRegion o36_28 [0, 1] :: k) env S) ∧
  (codeS I next stop k36_15 k env S = next (.code k36_16 :: .code k36_28 :: k) env S) ∧
  (codeS I next stop k36_11 k env S = next (.code k36_12 :: .code k36_15 :: k) env S) ∧
  (codeS I next stop k36_9 k env S = next (.code k36_10 :: .code k36_11 :: k) env S) ∧
  (codeS I next stop k36_8 k env S = stop (.code (.loop k36_9) :: k) env S) ∧
  (codeS I next stop k36_7 k env S = next (.code k36_8 :: .inBlock 0 :: k) env S) ∧
  (codeS I next stop k36_5 k env S = next (.code k36_6 :: .code k36_7 :: k) env S) ∧
  (codeS I next stop k36_30 k env S = next (.inRegion o36_30 [0, 1, 2, 3, 4, 5, 6, 7, 8] :: k) env S) ∧
  (codeS I next stop k36_31 k env S = stop (.code .ret :: k) env S) ∧
  (codeS I next stop k36_29 k env S = next (.code k36_30 :: .code k36_31 :: k) env S) ∧
  (codeS I next stop k36_4 k env S = next (.code k36_5 :: .code k36_29 :: k) env S) ∧
  (codeS I next stop k36_2 k env S = next (.code k36_3 :: .code k36_4 :: k) env S) ∧
  (codeS I next stop k36_0 k env S = next (.code k36_1 :: .code k36_2 :: k) env S) := by
  repeat' apply And.intro
  all_goals kernel_rfl
theorem c36r (P : Program) (I : Inv) (next stop : Cont) (rest : List Nat) (k : List Item) (env : List V) (S : Mem) : (regS P I next stop o36_1 0 rest k env S = bindS next (op1 P (evalV I env) S (.assign (.const (.bool false)))) (.inRegion o36_1 rest :: k) (some 6) env) ∧
  (regS P I next stop o36_3 0 rest k env S = bindS next (op1 P (evalV I env) S (.assign (.const (.slice none 0 0)))) (.inRegion o36_3 rest :: k) (some 7) env) ∧
  (regS P I next stop o36_6 0 rest k env S = bindS next (op1 P (evalV I env) S (.move (.tmp 1))) (.inRegion o36_6 rest :: k) (some 10) env) ∧
  (regS P I next stop o36_6 1 rest k env S = bindS next (opCall P (evalV I env) S { callee := .builtin .len, args := #[.tmp 10], argTypes := #[50] }) (.inRegion o36_6 rest :: k) (some 11) env) ∧
  (regS P I next stop o36_6 2 rest k env S = bindS next (op1 P (evalV I env) S (.move (.const (.int .i64 0)))) (.inRegion o36_6 rest :: k) (some 12) env) ∧
  (regS P I next stop o36_10 0 rest k env S = bindS next (op1 P (evalV I env) S (.binOp .lss 3 (.tmp 12) (.tmp 11) 3)) (.inRegion o36_10 rest :: k) (some 13) env) ∧
  (regS P I next stop o36_18 0 rest k env S = bindS next (op1 P (evalV I env) S (.indexAddr 50 (.tmp 10) (.tmp 12))) (.inRegion o36_18 rest :: k) (some 14) env) ∧
  (regS P I next stop o36_18 1 rest k env S = bindS next (op1 P (evalV I env) S (.load 60 (.tmp 14))) (.inRegion o36_18 rest :: k) (some 15) env) ∧
  (regS P I next stop o36_18 2 rest k env S = bindS next (op1 P (evalV I env) S (.alloc 60)) (.inRegion o36_18 rest :: k) (some 9) env) ∧
  (regS P I next stop o36_18 3 rest k env S = bindS next (op1 P (evalV I env) S (.store 60 (.tmp 9) (.tmp 15))) (.inRegion o36_18 rest :: k) none env) ∧
  (regS P I next stop o36_20 0 rest k env S = bindS next (op1 P (evalV I env) S (.move (.tmp 7))) (.inRegion o36_20 rest :: k) (some 16) env) ∧
  (regS P I next stop o36_20 1 rest k env S = bindS next (op1 P (evalV I env) S (.fieldAddr 60 (.tmp 9) 0)) (.inRegion o36_20 rest :: k) (some 17) env) ∧
  (regS P I next stop o36_20 2 rest k env S = bindS next (op1 P (evalV I env) S (.load 9 (.tmp 17))) (.inRegion o36_20 rest :: k) (some 18) env) ∧
  (regS P I next stop o36_20 3 rest k env S = bindS next (op1 P (evalV I env) S (.buildSlice 35 1 #[(0, .tmp 18)])) (.inRegion o36_20 rest :: k) (some 19) env) ∧
  (regS P I next stop o36_20 4 rest k env S = bindS next (opCall P (evalV I env) S { callee := .builtin .append, args := #[.tmp 16, .tmp 19], argTypes := #[35, 35] }) (.inRegion o36_20 rest :: k) (some 20) env) ∧
  (regS P I next stop o36_20 5 rest k env S = bindS next (op1 P (evalV I env) S (.assign (.tmp 20))) (.inRegion o36_20 rest :: k) (some 7) env) ∧
  (regS P I next stop o36_22 0 rest k env S = bindS next (op1 P (evalV I env) S (.move (.tmp 0))) (.inRegion o36_22 rest :: k) (some 21) env) ∧
  (regS P I next stop o36_22 1 rest k env S = callS P I stop (evalV I env (.func 35)) [evalV I env (.tmp 21), evalV I env (.const (.int .i64 0))] (.inRegion o36_22 rest :: k) (some 22) env S) ∧
  (regS P I next stop o36_22 2 rest k env S = bindS next (op1 P (evalV I env) S (.unOp .not 4 (.tmp 22))) (.inRegion o36_22 rest :: k) (some 23) env) ∧
  (regS P I next stop o36_22 3 rest k env S = bindS next (op1 P (evalV I env) S (.move (.tmp 23))) (.inRegion o36_22 rest :: k) (some 24) env) ∧
  (regS P I next stop o36_22 4 rest k env S = guardS P I next stop (env.getD 24 .undef) false o36_22 rest p36_22_4 k env S) ∧
  (doOp P I next stop o36_22 rest p36_22_4 k env S = bindS next (op1 P (evalV I env) S (.move (.tmp 0))) (.inRegion o36_22 rest :: k) (some 25) env) ∧
  (regS P I next stop o36_22 5 rest k env S = guardS P I next stop (env.getD 24 .undef) false o36_22 rest p36_22_5 k env S) ∧
  (doOp P I next stop o36_22 rest p36_22_5 k env S = bindS next (op1 P (evalV I env) S (.fieldAddr 60 (.tmp 9) 1)) (.inRegion o36_22 rest :: k) (some 26) env) ∧
  (regS P I next stop o36_22 6 rest k env S = guardS P I next stop (env.getD 24 .undef) false o36_22 rest p36_22_6 k env S) ∧
  (doOp P I next stop o36_22 rest p36_22_6 k env S = bindS next (op1 P (evalV I env) S (.load 34 (.tmp 26))) (.inRegion o36_22 rest :: k) (some 27) env) ∧
  (regS P I next stop o36_22 7 rest k env S = guardS P I next stop (env.getD 24 .undef) false o36_22 rest p36_22_7 k env S) ∧
  (doOp P I next stop o36_22 rest p36_22_7 k env S = callS P I stop (evalV I env (.func 39)) [evalV I env (.tmp 25), evalV I env (.tmp 27), evalV I env (.const (.int .i64 0))] (.inRegion o36_22 rest :: k) (some 28) env S) ∧
  (regS P I next stop o36_22 8 rest k env S = guardS P I next stop (env.getD 24 .undef) false o36_22 rest p36_22_8 k env S) ∧
  (doOp P I next stop o36_22 rest p36_22_8 k env S = bindS next (op1 P (evalV I env) S (.unOp .not 4 (.tmp 28))) (.inRegion o36_22 rest :: k) (some 29) env) ∧
  (regS P I next stop o36_22 9 rest k env S = bindS next (op1 P (evalV I env) S (.pick (.tmp 24) (.const (.bool true)) (.tmp 29))) (.inRegion o36_22 rest :: k) (some 30) env) ∧
  (regS P I next stop o36_25 0 rest k env S = bindS next (op1 P (evalV I env) S (.assign (.const (.bool false)))) (.inRegion o36_25 rest :: k) (some 6) env) ∧
  (regS P I next stop o36_28 0 rest k env S = bindS next (op1 P (evalV I env) S (.binOp .add 3 (.tmp 12) (.const (.int .i64 1)) 3)) (.inRegion o36_28 rest :: k) (some 31) env) ∧
  (regS P I next stop o36_28 1 rest k env S = bindS next (op1 P (evalV I env) S (.move (.tmp 31))) (.inRegion o36_28 rest :: k) (some 12) env) ∧
  (regS P I next stop o36_30 0 rest k env S = bindS next (op1 P (evalV I env) S (.move (.tmp 1))) (.inRegion o36_30 rest :: k) (some 32) env) ∧
  (regS P I next stop o36_30 1 rest k env S = bindS next (opCall P (evalV I env) S { callee := .builtin .len, args := #[.tmp 32], argTypes := #[50] }) (.inRegion o36_30 rest :: k) (some 33) env) ∧
  (regS P I next stop o36_30 2 rest k env S = bindS next (op1 P (evalV I env) S (.move (.tmp 2))) (.inRegion o36_30 rest :: k) (some 34) env) ∧
  (regS P I next stop o36_30 3 rest k env S = bindS next (op1 P (evalV I env) S (.binOp .leq 3 (.tmp 33) (.tmp 34) 3)) (.inRegion o36_30 rest :: k) (some 35) env) ∧
  (regS P I next stop o36_30 4 rest k env S = bindS next (op1 P (evalV I env) S (.move (.tmp 35))) (.inRegion o36_30 rest :: k) (some 36) env) ∧
  (regS P I next stop o36_30 5 rest k env S = guardS P I next stop (env.getD 36 .undef) true o36_30 rest p36_30_5 k env S) ∧
  (doOp P I next stop o36_30 rest p36_30_5 k env S = bindS next (op1 P (evalV I env) S (.move (.tmp 7))) (.inRegion o36_30 rest :: k) (some 37) env) ∧
  (regS P I next stop o36_30 6 rest k env S = guardS P I next stop (env.getD 36 .undef) true o36_30 rest p36_30_6 k env S) ∧
  (doOp P I next stop o36_30 rest p36_30_6 k env S = callS P I stop (evalV I env (.func 58)) [evalV I env (.tmp 37)] (.inRegion o36_30 rest :: k) (some 38) env S) ∧
  (regS P I next stop o36_30 7 rest k env S = bindS next (op1 P (evalV I env) S (.pick (.tmp 36) (.tmp 38) (.const (.bool false)))) (.inRegion o36_30 rest :: k) (some 39) env) ∧
  (regS P I next stop o36_30 8 rest k env S = bindS next (op1 P (evalV I env) S (.assign (.tmp 39))) (.inRegion o36_30 rest :: k) (some 6) env) := by
  repeat' apply And.intro
  all_goals kernel_rfl
theorem c36t  : (p36_22_4.dst = (some 25)) ∧
  (p36_22_5.dst = (some 26)) ∧
  (p36_22_6.dst = (some 27)) ∧
  (p36_22_7.dst = (some 28)) ∧
  (p36_22_8.dst = (some 29)) ∧
  (p36_30_5.dst = (some 37)) ∧
  (p36_30_6.dst = (some 38)) := by
  repeat' apply And.intro
  all_goals kernel_rfl
set_option linter.defProp false in
/-- All of these. -/
def c36 := And.intro @c36s ( And.intro @c36r (@c36t))

theorem mapD_nil : List.mapM toD [] = some [] := rfl
theorem mapD_cons (x : D) (l : List V) : List.mapM toD (.d x :: l) = (List.mapM toD l).map (x :: ·) := by
  rw [List.mapM_cons]
  show (some x).bind _ = _
  rw [Option.bind_some]
  cases List.mapM toD l <;> rfl
theorem vr_plain {c : Cx} {w : World} {rows : List (List D)} {tk : Tok} {v : Value} (h : VR c w (.sl rows tk) v) : VR c w (.d (.sl rows)) v := by
  cases h with
  | full _ a h ha => exact .d _ _ h
  | own _ t a cap i h ht hr hn hl => exact .d _ _ h
theorem sl_plain {P : Program} {I : Inv} {f : FuncId} {rows : List (List D)} {tk : Tok} {S : Mem} {R : V → Mem → Prop} (h : AFn P I f [.d (.sl rows)] S R) : AFn P I f [.sl rows tk] S R :=
  ⟨h.1, fun c w xs h1 h2 h3 hI => h.2 c w xs h1 (fun j hj => by
    have hj0 : j = 0 := by simpa using hj
    subst hj0
    exact vr_plain (h2 0 (by simp))) h3 hI⟩
theorem setAll0 {B : List (List V)} {T K : List (Nat × Nat)} {R : V → Mem → Prop} {v : V} {i : Nat} {vs : List V} (hf : vs.all (fit B.length T.length) = true) (h : R (wk B.length T.length v) ⟨B.set i vs, T⟩) : Ab.Left ⟨B, T⟩ R v ⟨B.set i vs, T ++ K⟩ := by
  have := Left.setAll (J := []) (K := K) hf h
  rwa [List.append_nil] at this
theorem pa_step (most : Nat) (l : List PaT) (p : Int) : paS most l p = andS (rowS (fun x : PaT => andS (partS 0) (fun p => tyS identS x.type 0 p)) l) (allowS (decide (l.length ≤ most) && diffS l.length (l.map PaT.name))) p := rfl
set_option maxHeartbeats 4000000 in
theorem params_ab (most : Nat) (_ : most ≤ 1000) (l : List PaT) (c : Nat) (p : Int) (B : List (List V)) (T : List (Nat × Nat)) (hB : B[c]? = some [.d (.int .i64 p)]) (hp : 0 ≤ p ∧ p ≤ 60000) :
    AFn Tryd.prog TabI 36 [.ptr c 0, .d (.sl (l.map paD)), .d (.int .i64 most)] ⟨B, T⟩ (Same (.d (.bool (paS most l p).1)) ⟨B.set c [.d (.int .i64 (paS most l p).2)], T⟩) := by
  obtain ⟨N, hn⟩ : ∃ N, B.length = N := ⟨_, rfl⟩
  obtain ⟨M, hM⟩ : ∃ M, T.length = M := ⟨_, rfl⟩
  have hc := (List.getElem?_eq_some_iff.1 hB).1
  have hi : c < N := by omega
  have hbs : B.set c [.d (.int .i64 p)] = B := by
    obtain ⟨_, h⟩ := List.getElem?_eq_some_iff.1 hB
    rw [← h, List.set_getElem_self]
  generalize hres : paS most l p = res
  rw [pa_step] at hres
  refine AFn.bodyE (body := k36_0) 40 Tryd.func36 (by kernel_rfl) (by kernel_rfl) (by kernel_rfl) (Nat.le_of_ble_eq_true rfl) fun hsm => ?_
  simp only [smL, sm, exV, stV, tyV, caV, paV, suV, fuV, prV, Bool.and_eq_true, decide_eq_true_eq, and_true, true_and, List.length_map, ssD_length] at hsm
  refine ARun.go 14 ?_
  simp -implicitDefEqProofs only [awC, awN, Nat.reduceAdd, Nat.reduceSub, Nat.reduceLT, Nat.reduceLeDiff, Nat.reduceEqDiff, Int.reduceToNat, Int.reduceEq, Int.reduceLT, Int.reduceLE, Int.reduceNeg, Int.reduceAdd, Int.reduceSub, Nat.reduceBEq, awT, c36, tys, hn, hi]
  refine ARun.fits fun hf => ?_
  refine ARun.token 7 [] (by rfl) 1 (by omega) rfl ?_
  simp only [envS_put, hM]
  refine ARun.go 20 ?_
  simp -implicitDefEqProofs only [awC, awN, Nat.reduceAdd, Nat.reduceSub, Nat.reduceLT, Nat.reduceLeDiff, Nat.reduceEqDiff, Int.reduceToNat, Int.reduceEq, Int.reduceLT, Int.reduceLE, Int.reduceNeg, Int.reduceAdd, Int.reduceSub, Nat.reduceBEq, awT, c36, tys, hn, hi]
  refine ARun.loopB (fun a : Nat × Int => (envS 40 [(0, .ptr c 0), (1, .d (.sl (l.map paD))), (2, .d (.int .i64 most)), (6, .d (.bool false)), (7, .sl (ssD ((l.take a.1).map PaT.name)) (.own M)), (10, .d (.sl (l.map paD))), (11, .d (.int .i64 l.length)), (12, .d (.int .i64 a.1))], ⟨B.set c [.d (.int .i64 a.2)], T ++ [(a.1, 1)]⟩)) (fun a => a.1 ≤ l.length ∧ ((a.1 : Int) ≤ a.2 ∧ a.2 ≤ 60000) ∧ andS (rowS (fun x : PaT => andS (partS 0) (fun p => tyS identS x.type 0 p)) (l.drop a.1)) (allowS (decide (l.length ≤ most) && diffS l.length (l.map PaT.name))) a.2 = res) (fun a => l.length - a.1) (0, p) ⟨by omega, hp, hres⟩ ?_ (by rw [hbs]) ?_
  · skip
    refine Agree.env _ ?_
    simp only [agree_cons, agree_nil, eq_self, and_self, true_and, and_true, Int.natCast_add, Int.natCast_one, Int.natCast_zero, envS_get, envS_eval, lk_cons, lk_nil, Nat.reduceBEq, Nat.reduceAdd, Nat.reduceSub, cond_true, cond_false, hn]
    trivial
  rintro ⟨i, q⟩ ⟨h1, h2, h3⟩ ih
  dsimp only at h1 h2 h3 ih ⊢
  by_cases hlt : i < l.length
  · have hw := wrap_in ((i : Int) + 1) (by omega)
    have hlt' : decide ((i : Int) < (l.length : Int)) = true := decide_eq_true (by omega)
    have hg := List.getElem?_eq_getElem hlt
    have hmin : min i l.length = i := by omega
    have hcap : (i + 1) * 16 ≤ 140737488355328 := by omega
    have hss : ssD ((l.take i).map PaT.name) ++ [[.str l[i].name]] = ssD ((l.take (i + 1)).map PaT.name) := by
      rw [List.take_succ_eq_append_getElem hlt, List.map_append]
      simp [ssD]
    have hr1 : ∀ s : List UInt8, rowsSz 1 [[D.str s]] = true := fun _ => rfl
    have hM1 : M < M + 1 := by omega
    rw [drop_get hlt] at h3
    change andS (andS (andS (partS 0) (fun p => tyS identS l[i].type 0 p)) (rowS _ (l.drop (i + 1)))) _ q = res at h3
    rw [andS_assoc, andS_assoc] at h3
    refine ARun.go 100 ?_
    simp -implicitDefEqProofs only [awC, awN, Nat.reduceAdd, Nat.reduceSub, Nat.reduceLT, Nat.reduceLeDiff, Nat.reduceEqDiff, Int.reduceToNat, Int.reduceEq, Int.reduceLT, Int.reduceLE, Int.reduceNeg, Int.reduceAdd, Int.reduceSub, Nat.reduceBEq, awT, c36, tys, hn, hi, hM, List.getElem?_map, hg, hlt', paD, hmin, List.length_take, hcap, hss, mapD_nil, mapD_cons, Nat.reduceMul, hr1]
    refine callS_fn (part_ab c 0 q _ _ (by rw [bx_old (by simp; omega)]; exact bx_get hc) ⟨by omega, h2.2⟩) ?_
    rintro _ _ ⟨rfl, rfl⟩
    refine ARun.go 200 ?_
    simp -implicitDefEqProofs only [awC, awN, Nat.reduceAdd, Nat.reduceSub, Nat.reduceLT, Nat.reduceLeDiff, Nat.reduceEqDiff, Int.reduceToNat, Int.reduceEq, Int.reduceLT, Int.reduceLE, Int.reduceNeg, Int.reduceAdd, Int.reduceSub, Nat.reduceBEq, awT, c36, tys, hn, hi, hM]
    cases hk : partOk 0 q
    · rw [andS_no (show (partS 0 q).1 = false from hk)] at h3
      simp -implicitDefEqProofs only [awC, awN, Nat.reduceAdd, Nat.reduceSub, Nat.reduceLT, Nat.reduceLeDiff, Nat.reduceEqDiff, Int.reduceToNat, Int.reduceEq, Int.reduceLT, Int.reduceLE, Int.reduceNeg, Int.reduceAdd, Int.reduceSub, Nat.reduceBEq, awT, c36, tys, hn, hi, hk]
      refine ARun.ret Tryd.func36 rfl (Left.setAll rfl ?_)
      rw [← h3]
      (try clear ih)
      (try simp only [decide_eq_true_eq, decide_eq_false_iff_not, Bool.not_eq_true', Bool.not_eq_false'] at *)
      simp only [wk, Same, List.getD_cons_zero, List.getD_cons_succ, envS_get, envS_eval, lk_cons, lk_nil, Nat.reduceBEq, Nat.reduceAdd, Nat.reduceSub, cond_true, cond_false]
      simp [*]
      rfl
    · have hpo := partOk_in hk
      rw [andS_yes (show (partS 0 q).1 = true from hk)] at h3
      change andS _ _ (q + 1) = res at h3
      simp -implicitDefEqProofs only [awC, awN, Nat.reduceAdd, Nat.reduceSub, Nat.reduceLT, Nat.reduceLeDiff, Nat.reduceEqDiff, Int.reduceToNat, Int.reduceEq, Int.reduceLT, Int.reduceLE, Int.reduceNeg, Int.reduceAdd, Int.reduceSub, Nat.reduceBEq, awT, c36, tys, hn, hi, hk]
      refine callS_fn (typ_ab l[i].type c 0 (q + 1) _ _ (by rw [bx_old (by simp; omega)]; exact bx_get hc) ⟨by omega, hpo.1⟩ ⟨by omega, by omega⟩) ?_
      rintro _ _ ⟨rfl, rfl⟩
      have hok := tyS_ok identS l[i].type 0 (q + 1)
      obtain ⟨⟨b, r⟩, hty⟩ : ∃ z, tyS identS l[i].type 0 (q + 1) = z := ⟨_, rfl⟩
      rw [hty] at hok
      refine ARun.go 200 ?_
      simp -implicitDefEqProofs only [awC, awN, Nat.reduceAdd, Nat.reduceSub, Nat.reduceLT, Nat.reduceLeDiff, Nat.reduceEqDiff, Int.reduceToNat, Int.reduceEq, Int.reduceLT, Int.reduceLE, Int.reduceNeg, Int.reduceAdd, Int.reduceSub, Nat.reduceBEq, awT, c36, tys, hn, hi, hM, hty]
      cases b
      · rw [andS_no (by rw [hty]), hty] at h3
        simp -implicitDefEqProofs only [awC, awN, Nat.reduceAdd, Nat.reduceSub, Nat.reduceLT, Nat.reduceLeDiff, Nat.reduceEqDiff, Int.reduceToNat, Int.reduceEq, Int.reduceLT, Int.reduceLE, Int.reduceNeg, Int.reduceAdd, Int.reduceSub, Nat.reduceBEq, awT, c36, tys, hn, hi]
        refine ARun.ret Tryd.func36 rfl (Left.setAll rfl ?_)
        rw [← h3]
        (try clear ih)
        (try simp only [decide_eq_true_eq, decide_eq_false_iff_not, Bool.not_eq_true', Bool.not_eq_false'] at *)
        simp only [wk, Same, List.getD_cons_zero, List.getD_cons_succ, envS_get, envS_eval, lk_cons, lk_nil, Nat.reduceBEq, Nat.reduceAdd, Nat.reduceSub, cond_true, cond_false]
        simp [*]
        skip
      · rw [andS_yes (by rw [hty]), hty] at h3
        have hok := hok rfl
        dsimp only at hok h3
        simp -implicitDefEqProofs only [awC, awN, Nat.reduceAdd, Nat.reduceSub, Nat.reduceLT, Nat.reduceLeDiff, Nat.reduceEqDiff, Int.reduceToNat, Int.reduceEq, Int.reduceLT, Int.reduceLE, Int.reduceNeg, Int.reduceAdd, Int.reduceSub, Nat.reduceBEq, awT, c36, tys, hn, hi, hM, hw]
        refine ih (i + 1, r) ⟨hlt, ⟨by dsimp only; omega, hok.2⟩, h3⟩ (by dsimp only; omega) _ _ _ _ rfl ⟨by simp; omega, by simp; omega⟩ ?_ ?_
        · have := Fits.more (X := []) (Y := [(i + 1, 1)]) (Fits.set hf (i := c) (vs := [.d (.int .i64 r)]) rfl) (fun vs hv => absurd hv List.not_mem_nil)
          rwa [List.append_nil] at this
        · skip
          refine AgreeF.env _ ?_
          simp only [agreeF_cons, agreeF_nil, fit, fitL, eq_self, and_self, true_and, and_true, Bool.and_true, Bool.true_and, Bool.and_self, decide_true, List.length_set, Int.natCast_add, Int.natCast_one, Int.natCast_zero, envS_get, envS_eval, lk_cons, lk_nil, Nat.reduceBEq, Nat.reduceAdd, Nat.reduceSub, cond_true, cond_false, hn, hi, hM, List.length_append, List.length_cons, List.length_nil, Nat.zero_add, hM1]
  · have hlt' : decide ((i : Int) < (l.length : Int)) = false := decide_eq_false (by omega)
    rw [List.drop_eq_nil_of_le (by omega), andS_yes rfl] at h3
    have hti : l.take i = l := List.take_of_length_le (by omega)
    have hmo : decide ((l.length : Int) ≤ (most : Int)) = decide (l.length ≤ most) := decide_eq_decide.2 (by omega)
    refine ARun.go 200 ?_
    simp -implicitDefEqProofs only [awC, awN, Nat.reduceAdd, Nat.reduceSub, Nat.reduceLT, Nat.reduceLeDiff, Nat.reduceEqDiff, Int.reduceToNat, Int.reduceEq, Int.reduceLT, Int.reduceLE, Int.reduceNeg, Int.reduceAdd, Int.reduceSub, Nat.reduceBEq, awT, c36, tys, hn, hi, hM, hlt', hti, hmo]
    cases hle : decide (l.length ≤ most)
    · simp -implicitDefEqProofs only [awC, awN, Nat.reduceAdd, Nat.reduceSub, Nat.reduceLT, Nat.reduceLeDiff, Nat.reduceEqDiff, Int.reduceToNat, Int.reduceEq, Int.reduceLT, Int.reduceLE, Int.reduceNeg, Int.reduceAdd, Int.reduceSub, Nat.reduceBEq, awT, c36, tys, hn, hi, hM]
      refine ARun.ret Tryd.func36 rfl (setAll0 rfl ?_)
      rw [← h3, hle]
      (try clear ih)
      (try simp only [decide_eq_true_eq, decide_eq_false_iff_not, Bool.not_eq_true', Bool.not_eq_false'] at *)
      simp only [wk, Same, List.getD_cons_zero, List.getD_cons_succ, envS_get, envS_eval, lk_cons, lk_nil, Nat.reduceBEq, Nat.reduceAdd, Nat.reduceSub, cond_true, cond_false]
      simp [*]
      exact ⟨rfl, rfl⟩
    · simp -implicitDefEqProofs only [awC, awN, Nat.reduceAdd, Nat.reduceSub, Nat.reduceLT, Nat.reduceLeDiff, Nat.reduceEqDiff, Int.reduceToNat, Int.reduceEq, Int.reduceLT, Int.reduceLE, Int.reduceNeg, Int.reduceAdd, Int.reduceSub, Nat.reduceBEq, awT, c36, tys, hn, hi, hM]
      refine callS_fn (sl_plain (different_ab (l.map PaT.name) (by simp; have := of_decide_eq_true hle; omega) _ _)) ?_
      rintro _ _ ⟨rfl, rfl⟩
      refine ARun.go 200 ?_
      simp -implicitDefEqProofs only [awC, awN, Nat.reduceAdd, Nat.reduceSub, Nat.reduceLT, Nat.reduceLeDiff, Nat.reduceEqDiff, Int.reduceToNat, Int.reduceEq, Int.reduceLT, Int.reduceLE, Int.reduceNeg, Int.reduceAdd, Int.reduceSub, Nat.reduceBEq, awT, c36, tys, hn, hi, hM]
      refine ARun.ret Tryd.func36 rfl (setAll0 rfl ?_)
      rw [← h3, hle]
      (try clear ih)
      (try simp only [decide_eq_true_eq, decide_eq_false_iff_not, Bool.not_eq_true', Bool.not_eq_false'] at *)
      simp only [wk, Same, List.getD_cons_zero, List.getD_cons_succ, envS_get, envS_eval, lk_cons, lk_nil, Nat.reduceBEq, Nat.reduceAdd, Nat.reduceSub, cond_true, cond_false]
      simp [*]
      exact ⟨rfl, rfl⟩
end Go.Proofs.YtombghldgdcjcaaDoor

