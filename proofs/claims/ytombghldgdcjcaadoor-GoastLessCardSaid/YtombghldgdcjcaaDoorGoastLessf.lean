/- GoastLess (avocetlaw24) holds, as the tied card says it: a program that may be may be without any one of its functions, and of its structs, and it has fewer parts then. No conditions. Part 6 of 6 of the proof. -/
import Derived.Test.YtombghldgdcjcaaDoorGoastLesse
import Derived.OpenShut
import Derived.ChangeArms
import Derived.Test.YtombghldgdcjcaaDoorRows
import Derived.ProofKit
import Derived.ShutString
import Derived.Deep.DeepHandedRow
import Derived.Carry
import Derived.Lib.LaidTab
import Derived.LaidLaws
import Derived.WalkKit
import Derived.Test.YtombghldgdcjcaaDoorCards
import Derived.Test.YtombghldgdcjcaaDoorTie
import Derived.Lay
/- The document's counts, as the machine reckons them: statements, programs. -/
namespace Go.Proofs.YtombghldgdcjcaaDoor
open Go.RowKit Go.Av Go.Ab
set_option linter.unusedSimpArgs false
set_option maxRecDepth 100000
noncomputable def k34_0 : Code := bodyOf Tryd.f34
noncomputable def k34_1 : Code := lft k34_0
noncomputable def o34_1 : Array Oper := opsOf k34_1
noncomputable def k34_2 : Code := rgt k34_0
noncomputable def k34_3 : Code := lft k34_2
noncomputable def o34_3 : Array Oper := opsOf k34_3
noncomputable def k34_4 : Code := rgt k34_2
noncomputable def k34_5 : Code := lft k34_4
noncomputable def k34_6 : Code := lft k34_5
noncomputable def o34_6 : Array Oper := opsOf k34_6
noncomputable def k34_7 : Code := rgt k34_5
noncomputable def k34_8 : Code := lft k34_7
noncomputable def k34_9 : Code := lft k34_8
noncomputable def k34_10 : Code := lft k34_9
noncomputable def k34_11 : Code := lft k34_10
noncomputable def o34_11 : Array Oper := opsOf k34_11
noncomputable def p34_11_5 : Oper := opAt o34_11 5
noncomputable def p34_11_6 : Oper := opAt o34_11 6
noncomputable def p34_11_7 : Oper := opAt o34_11 7
noncomputable def k34_12 : Code := rgt k34_10
noncomputable def k34_13 : Code := lft k34_12
noncomputable def k34_14 : Code := rgt k34_12
noncomputable def k34_15 : Code := rgt k34_9
noncomputable def k34_16 : Code := lft k34_15
noncomputable def k34_17 : Code := lft k34_16
noncomputable def k34_18 : Code := lft k34_17
noncomputable def o34_18 : Array Oper := opsOf k34_18
noncomputable def k34_19 : Code := rgt k34_17
noncomputable def k34_20 : Code := lft k34_19
noncomputable def k34_21 : Code := lft k34_20
noncomputable def o34_21 : Array Oper := opsOf k34_21
noncomputable def k34_22 : Code := rgt k34_20
noncomputable def k34_23 : Code := lft k34_22
noncomputable def o34_23 : Array Oper := opsOf k34_23
noncomputable def k34_24 : Code := rgt k34_22
noncomputable def k34_25 : Code := rgt k34_19
noncomputable def k34_26 : Code := lft k34_25
noncomputable def o34_26 : Array Oper := opsOf k34_26
noncomputable def p34_26_0 : Oper := opAt o34_26 0
noncomputable def p34_26_1 : Oper := opAt o34_26 1
noncomputable def p34_26_2 : Oper := opAt o34_26 2
noncomputable def p34_26_3 : Oper := opAt o34_26 3
noncomputable def p34_26_4 : Oper := opAt o34_26 4
noncomputable def p34_26_5 : Oper := opAt o34_26 5
noncomputable def p34_26_6 : Oper := opAt o34_26 6
noncomputable def p34_26_7 : Oper := opAt o34_26 7
noncomputable def p34_26_8 : Oper := opAt o34_26 8
noncomputable def p34_26_9 : Oper := opAt o34_26 9
noncomputable def p34_26_10 : Oper := opAt o34_26 10
noncomputable def p34_26_11 : Oper := opAt o34_26 11
noncomputable def p34_26_12 : Oper := opAt o34_26 12
noncomputable def p34_26_13 : Oper := opAt o34_26 13
noncomputable def p34_26_14 : Oper := opAt o34_26 14
noncomputable def p34_26_15 : Oper := opAt o34_26 15
noncomputable def p34_26_16 : Oper := opAt o34_26 16
noncomputable def p34_26_17 : Oper := opAt o34_26 17
noncomputable def p34_26_18 : Oper := opAt o34_26 18
noncomputable def p34_26_19 : Oper := opAt o34_26 19
noncomputable def p34_26_20 : Oper := opAt o34_26 20
noncomputable def p34_26_21 : Oper := opAt o34_26 21
noncomputable def k34_27 : Code := rgt k34_25
noncomputable def k34_28 : Code := lft k34_27
noncomputable def o34_28 : Array Oper := opsOf k34_28
noncomputable def p34_28_0 : Oper := opAt o34_28 0
noncomputable def p34_28_1 : Oper := opAt o34_28 1
noncomputable def p34_28_2 : Oper := opAt o34_28 2
noncomputable def p34_28_3 : Oper := opAt o34_28 3
noncomputable def p34_28_4 : Oper := opAt o34_28 4
noncomputable def p34_28_5 : Oper := opAt o34_28 5
noncomputable def p34_28_6 : Oper := opAt o34_28 6
noncomputable def p34_28_7 : Oper := opAt o34_28 7
noncomputable def p34_28_8 : Oper := opAt o34_28 8
noncomputable def p34_28_9 : Oper := opAt o34_28 9
noncomputable def p34_28_10 : Oper := opAt o34_28 10
noncomputable def p34_28_11 : Oper := opAt o34_28 11
noncomputable def p34_28_12 : Oper := opAt o34_28 12
noncomputable def p34_28_13 : Oper := opAt o34_28 13
noncomputable def p34_28_14 : Oper := opAt o34_28 14
noncomputable def p34_28_15 : Oper := opAt o34_28 15
noncomputable def p34_28_16 : Oper := opAt o34_28 16
noncomputable def p34_28_17 : Oper := opAt o34_28 17
noncomputable def p34_28_18 : Oper := opAt o34_28 18
noncomputable def p34_28_19 : Oper := opAt o34_28 19
noncomputable def p34_28_20 : Oper := opAt o34_28 20
noncomputable def p34_28_21 : Oper := opAt o34_28 21
noncomputable def k34_29 : Code := rgt k34_27
noncomputable def k34_30 : Code := lft k34_29
noncomputable def o34_30 : Array Oper := opsOf k34_30
noncomputable def k34_31 : Code := rgt k34_29
noncomputable def k34_32 : Code := lft k34_31
noncomputable def k34_33 : Code := lft k34_32
noncomputable def k34_34 : Code := lft k34_33
noncomputable def k34_35 : Code := lft k34_34
noncomputable def o34_35 : Array Oper := opsOf k34_35
noncomputable def p34_35_9 : Oper := opAt o34_35 9
noncomputable def p34_35_10 : Oper := opAt o34_35 10
noncomputable def p34_35_11 : Oper := opAt o34_35 11
noncomputable def k34_36 : Code := rgt k34_34
noncomputable def k34_37 : Code := lft k34_36
noncomputable def k34_38 : Code := rgt k34_36
noncomputable def k34_39 : Code := rgt k34_33
noncomputable def k34_40 : Code := lft k34_39
noncomputable def k34_41 : Code := lft k34_40
noncomputable def o34_41 : Array Oper := opsOf k34_41
noncomputable def k34_42 : Code := rgt k34_39
noncomputable def o34_42 : Array Oper := opsOf k34_42
noncomputable def k34_43 : Code := rgt k34_15
noncomputable def o34_43 : Array Oper := opsOf k34_43
noncomputable def k34_44 : Code := rgt k34_4
noncomputable def k34_45 : Code := lft k34_44
noncomputable def o34_45 : Array Oper := opsOf k34_45
noncomputable def k34_46 : Code := rgt k34_44
theorem c34s (I : Inv) (next stop : Cont) (k : List Item) (env : List V) (S : Mem) : (codeS I next stop k34_1 k env S = next (.inRegion o34_1 [0] :: k) env S) ∧
  (codeS I next stop k34_3 k env S = next (.inRegion o34_3 [0] :: k) env S) ∧
  (codeS I next stop k34_6 k env S = next (.inRegion o34_6 [0] :: k) env S) ∧
  (codeS I next stop k34_11 k env S = next (.inRegion o34_11 [0, 1, 2, 3, 4, 5, 6, 7, 8] :: k) env S) ∧
  (codeS I next stop k34_13 k env S = next k env S) ∧
  (codeS I next stop k34_14 k env S = exitV next (exitTo 0 k) env S) ∧
  (codeS I next stop k34_12 k env S = condV next (evalV I env (.tmp 16)) k34_13 k34_14 k env S) ∧
  (codeS I next stop k34_10 k env S = next (.code k34_11 :: .code k34_12 :: k) env S) ∧
  (codeS I next stop k34_18 k env S = next (.inRegion o34_18 [0, 1, 2] :: k) env S) ∧
  (codeS I next stop k34_21 k env S = next (.inRegion o34_21 [0, 1, 2, 3, 4, 5, 6] :: k) env S) ∧
  (codeS I next stop k34_23 k env S = next (.inRegion o34_23 [0, 1, 2, 3, 4, 5, 6, 7, 8, 9, 10, 11] :: k) env S) ∧
  (codeS I next stop k34_24 k env S = next k env S) ∧
  (codeS I next stop k34_22 k env S = condV next (evalV I env (.tmp 27)) k34_23 k34_24 k env S) ∧
  (codeS I next stop k34_20 k env S = next (.code k34_21 :: .code k34_22 :: k) env S) ∧
  (codeS I next stop k34_26 k env S = stop (.code (.region 8 o34_26 true) :: k) env S) ∧
  (codeS I next stop k34_28 k env S = stop (.code (.region 9 o34_28 true) :: k) env S) ∧
  (codeS I next stop k34_30 k env S = next (.inRegion o34_30 [0] :: k) env S) ∧
  (codeS I next stop k34_35 k env S = next (.inRegion o34_35 [0, 1, 2, 3, 4, 5, 6, 7, 8, 9, 10, 11, 12] :: k) env S) ∧
  (codeS I next stop k34_37 k env S = next k env S) ∧
  (codeS I next stop k34_38 k env S = exitV next (exitTo 2 k) env S) ∧
  (codeS I next stop k34_36 k env S = condV next (evalV I env (.tmp 93)) k34_37 k34_38 k env S) ∧
  (codeS I next stop k34_34 k env S = next (.code k34_35 :: .code k34_36 :: k) env S) ∧
  (codeS I next stop k34_41 k env S = next (.inRegion o34_41 [0, 1, 2, 3, 4, 5, 6, 7, 8, 9, 10, 11, 12, 13, 14, 15, 16] :: k) env S) ∧
  (codeS I next stop k34_40 k env S = next (.code k34_41 :: .inBlock 3 :: k) env S) ∧
  (codeS I next stop k34_42 k env S = next (.inRegion o34_42 [0, 1, 2] :: k) env S) ∧
  (codeS I next stop k34_39 k env S = next (.code k34_40 :: .code k34_42 :: k) env S) ∧
  (codeS I next stop k34_33 k env S = next (.code k34_34 :: .code k34_39 :: k) env S) ∧
  (codeS I next stop k34_32 k env S = stop (.code (.loop k34_33) :: k) env S) ∧
  (codeS I next stop k34_31 k env S = next (.code k34_32 :: .inBlock 2 :: k) env S) ∧
  (codeS I next stop k34_29 k env S = next (.code k34_30 :: .code k34_31 :: k) env S) ∧
  (codeS I next stop k34_27 k env S = next (.code k34_28 :: .code k34_29 :: k) env S) ∧
  (codeS I next stop k34_25 k env S = next (.code k34_26 :: .code k34_27 :: k) env S) ∧
  (codeS I next stop k34_19 k env S = next (.code k34_20 :: .code k34_25 :: k) env S) ∧
  (codeS I next stop k34_17 k env S = next (.code k34_18 :: .code k34_19 :: k) env S) ∧
  (codeS I next stop k34_16 k env S = next (.code k34_17 :: .inBlock 1 :: k) env S) ∧
  (codeS I next stop k34_43 k env S = next (.inRegion o34_43 [0, 1, 2] :: k) env S) ∧
  (codeS I next stop k34_15 k env S = next (.code k34_16 :: .code k34_43 :: k) env S) ∧
  (codeS I next stop k34_9 k env S = next (.code k34_10 :: .code k34_15 :: k) env S) ∧
  (codeS I next stop k34_8 k env S = stop (.code (.loop k34_9) :: k) env S) ∧
  (codeS I next stop k34_7 k env S = next (.code k34_8 :: .inBlock 0 :: k) env S) ∧
  (codeS I next stop k34_5 k env S = next (.code k34_6 :: .code k34_7 :: k) env S) ∧
  (codeS I next stop k34_45 k env S = next (.inRegion o34_45 [0, 1] :: k) env S) ∧
  (codeS I next stop k34_46 k env S = stop (.code .ret :: k) env S) ∧
  (codeS I next stop k34_44 k env S = next (.code k34_45 :: .code k34_46 :: k) env S) ∧
  (codeS I next stop k34_4 k env S = next (.code k34_5 :: .code k34_44 :: k) env S) ∧
  (codeS I next stop k34_2 k env S = next (.code k34_3 :: .code k34_4 :: k) env S) ∧
  (codeS I next stop k34_0 k env S = next (.code k34_1 :: .code k34_2 :: k) env S) := by
  repeat' apply And.intro
  all_goals kernel_rfl
theorem c34r (P : Program) (I : Inv) (next stop : Cont) (rest : List Nat) (k : List Item) (env : List V) (S : Mem) : (regS P I next stop o34_1 0 rest k env S = bindS next (op1 P (evalV I env) S (.assign (.const (.int .i64 0)))) (.inRegion o34_1 rest :: k) (some 4) env) ∧
  (regS P I next stop o34_3 0 rest k env S = bindS next (op1 P (evalV I env) S (.assign (.const (.int .i64 0)))) (.inRegion o34_3 rest :: k) (some 5) env) ∧
  (regS P I next stop o34_6 0 rest k env S = bindS next (op1 P (evalV I env) S (.assign (.const (.int .i64 0)))) (.inRegion o34_6 rest :: k) (some 6) env) ∧
  (regS P I next stop o34_11 0 rest k env S = bindS next (op1 P (evalV I env) S (.move (.tmp 6))) (.inRegion o34_11 rest :: k) (some 8) env) ∧
  (regS P I next stop o34_11 1 rest k env S = bindS next (op1 P (evalV I env) S (.move (.tmp 0))) (.inRegion o34_11 rest :: k) (some 9) env) ∧
  (regS P I next stop o34_11 2 rest k env S = bindS next (opCall P (evalV I env) S { callee := .builtin .len, args := #[.tmp 9], argTypes := #[54] }) (.inRegion o34_11 rest :: k) (some 10) env) ∧
  (regS P I next stop o34_11 3 rest k env S = bindS next (op1 P (evalV I env) S (.binOp .lss 3 (.tmp 8) (.tmp 10) 3)) (.inRegion o34_11 rest :: k) (some 11) env) ∧
  (regS P I next stop o34_11 4 rest k env S = bindS next (op1 P (evalV I env) S (.move (.tmp 11))) (.inRegion o34_11 rest :: k) (some 12) env) ∧
  (regS P I next stop o34_11 5 rest k env S = guardS P I next stop (env.getD 12 .undef) true o34_11 rest p34_11_5 k env S) ∧
  (doOp P I next stop o34_11 rest p34_11_5 k env S = bindS next (op1 P (evalV I env) S (.move (.tmp 5))) (.inRegion o34_11 rest :: k) (some 13) env) ∧
  (regS P I next stop o34_11 6 rest k env S = guardS P I next stop (env.getD 12 .undef) true o34_11 rest p34_11_6 k env S) ∧
  (doOp P I next stop o34_11 rest p34_11_6 k env S = bindS next (op1 P (evalV I env) S (.move (.tmp 1))) (.inRegion o34_11 rest :: k) (some 14) env) ∧
  (regS P I next stop o34_11 7 rest k env S = guardS P I next stop (env.getD 12 .undef) true o34_11 rest p34_11_7 k env S) ∧
  (doOp P I next stop o34_11 rest p34_11_7 k env S = bindS next (op1 P (evalV I env) S (.binOp .leq 3 (.tmp 13) (.tmp 14) 3)) (.inRegion o34_11 rest :: k) (some 15) env) ∧
  (regS P I next stop o34_11 8 rest k env S = bindS next (op1 P (evalV I env) S (.pick (.tmp 12) (.tmp 15) (.const (.bool false)))) (.inRegion o34_11 rest :: k) (some 16) env) ∧
  (regS P I next stop o34_18 0 rest k env S = bindS next (op1 P (evalV I env) S (.move (.tmp 5))) (.inRegion o34_18 rest :: k) (some 19) env) ∧
  (regS P I next stop o34_18 1 rest k env S = bindS next (op1 P (evalV I env) S (.binOp .add 3 (.tmp 19) (.const (.int .i64 1)) 3)) (.inRegion o34_18 rest :: k) (some 20) env) ∧
  (regS P I next stop o34_18 2 rest k env S = bindS next (op1 P (evalV I env) S (.assign (.tmp 20))) (.inRegion o34_18 rest :: k) (some 5) env) ∧
  (regS P I next stop o34_21 0 rest k env S = bindS next (op1 P (evalV I env) S (.move (.tmp 0))) (.inRegion o34_21 rest :: k) (some 21) env) ∧
  (regS P I next stop o34_21 1 rest k env S = bindS next (op1 P (evalV I env) S (.move (.tmp 6))) (.inRegion o34_21 rest :: k) (some 22) env) ∧
  (regS P I next stop o34_21 2 rest k env S = bindS next (op1 P (evalV I env) S (.indexAddr 54 (.tmp 21) (.tmp 22))) (.inRegion o34_21 rest :: k) (some 23) env) ∧
  (regS P I next stop o34_21 3 rest k env S = bindS next (op1 P (evalV I env) S (.fieldAddr 69 (.tmp 23) 2)) (.inRegion o34_21 rest :: k) (some 24) env) ∧
  (regS P I next stop o34_21 4 rest k env S = bindS next (op1 P (evalV I env) S (.load 34 (.tmp 24))) (.inRegion o34_21 rest :: k) (some 25) env) ∧
  (regS P I next stop o34_21 5 rest k env S = callS P I stop (evalV I env (.func 56)) [evalV I env (.tmp 25)] (.inRegion o34_21 rest :: k) (some 26) env S) ∧
  (regS P I next stop o34_21 6 rest k env S = bindS next (op1 P (evalV I env) S (.unOp .not 4 (.tmp 26))) (.inRegion o34_21 rest :: k) (some 27) env) ∧
  (regS P I next stop o34_23 0 rest k env S = bindS next (op1 P (evalV I env) S (.move (.tmp 5))) (.inRegion o34_23 rest :: k) (some 28) env) ∧
  (regS P I next stop o34_23 1 rest k env S = bindS next (op1 P (evalV I env) S (.move (.tmp 0))) (.inRegion o34_23 rest :: k) (some 29) env) ∧
  (regS P I next stop o34_23 2 rest k env S = bindS next (op1 P (evalV I env) S (.move (.tmp 6))) (.inRegion o34_23 rest :: k) (some 30) env) ∧
  (regS P I next stop o34_23 3 rest k env S = bindS next (op1 P (evalV I env) S (.indexAddr 54 (.tmp 29) (.tmp 30))) (.inRegion o34_23 rest :: k) (some 31) env) ∧
  (regS P I next stop o34_23 4 rest k env S = bindS next (op1 P (evalV I env) S (.fieldAddr 69 (.tmp 31) 2)) (.inRegion o34_23 rest :: k) (some 32) env) ∧
  (regS P I next stop o34_23 5 rest k env S = bindS next (op1 P (evalV I env) S (.load 34 (.tmp 32))) (.inRegion o34_23 rest :: k) (some 33) env) ∧
  (regS P I next stop o34_23 6 rest k env S = bindS next (op1 P (evalV I env) S (.move (.tmp 1))) (.inRegion o34_23 rest :: k) (some 34) env) ∧
  (regS P I next stop o34_23 7 rest k env S = bindS next (op1 P (evalV I env) S (.move (.tmp 5))) (.inRegion o34_23 rest :: k) (some 35) env) ∧
  (regS P I next stop o34_23 8 rest k env S = bindS next (op1 P (evalV I env) S (.binOp .sub 3 (.tmp 34) (.tmp 35) 3)) (.inRegion o34_23 rest :: k) (some 36) env) ∧
  (regS P I next stop o34_23 9 rest k env S = callS P I stop (evalV I env (.func 33)) [evalV I env (.tmp 33), evalV I env (.tmp 36)] (.inRegion o34_23 rest :: k) (some 37) env S) ∧
  (regS P I next stop o34_23 10 rest k env S = bindS next (op1 P (evalV I env) S (.binOp .add 3 (.tmp 28) (.tmp 37) 3)) (.inRegion o34_23 rest :: k) (some 38) env) ∧
  (regS P I next stop o34_23 11 rest k env S = bindS next (op1 P (evalV I env) S (.assign (.tmp 38))) (.inRegion o34_23 rest :: k) (some 5) env) ∧
  (regS P I next stop o34_30 0 rest k env S = bindS next (op1 P (evalV I env) S (.assign (.const (.int .i64 0)))) (.inRegion o34_30 rest :: k) (some 7) env) ∧
  (regS P I next stop o34_35 0 rest k env S = bindS next (op1 P (evalV I env) S (.move (.tmp 7))) (.inRegion o34_35 rest :: k) (some 81) env) ∧
  (regS P I next stop o34_35 1 rest k env S = bindS next (op1 P (evalV I env) S (.move (.tmp 0))) (.inRegion o34_35 rest :: k) (some 82) env) ∧
  (regS P I next stop o34_35 2 rest k env S = bindS next (op1 P (evalV I env) S (.move (.tmp 6))) (.inRegion o34_35 rest :: k) (some 83) env) ∧
  (regS P I next stop o34_35 3 rest k env S = bindS next (op1 P (evalV I env) S (.indexAddr 54 (.tmp 82) (.tmp 83))) (.inRegion o34_35 rest :: k) (some 84) env) ∧
  (regS P I next stop o34_35 4 rest k env S = bindS next (op1 P (evalV I env) S (.fieldAddr 69 (.tmp 84) 7)) (.inRegion o34_35 rest :: k) (some 85) env) ∧
  (regS P I next stop o34_35 5 rest k env S = bindS next (op1 P (evalV I env) S (.load 67 (.tmp 85))) (.inRegion o34_35 rest :: k) (some 86) env) ∧
  (regS P I next stop o34_35 6 rest k env S = bindS next (opCall P (evalV I env) S { callee := .builtin .len, args := #[.tmp 86], argTypes := #[67] }) (.inRegion o34_35 rest :: k) (some 87) env) ∧
  (regS P I next stop o34_35 7 rest k env S = bindS next (op1 P (evalV I env) S (.binOp .lss 3 (.tmp 81) (.tmp 87) 3)) (.inRegion o34_35 rest :: k) (some 88) env) ∧
  (regS P I next stop o34_35 8 rest k env S = bindS next (op1 P (evalV I env) S (.move (.tmp 88))) (.inRegion o34_35 rest :: k) (some 89) env) ∧
  (regS P I next stop o34_35 9 rest k env S = guardS P I next stop (env.getD 89 .undef) true o34_35 rest p34_35_9 k env S) ∧
  (doOp P I next stop o34_35 rest p34_35_9 k env S = bindS next (op1 P (evalV I env) S (.move (.tmp 5))) (.inRegion o34_35 rest :: k) (some 90) env) ∧
  (regS P I next stop o34_35 10 rest k env S = guardS P I next stop (env.getD 89 .undef) true o34_35 rest p34_35_10 k env S) ∧
  (doOp P I next stop o34_35 rest p34_35_10 k env S = bindS next (op1 P (evalV I env) S (.move (.tmp 1))) (.inRegion o34_35 rest :: k) (some 91) env) ∧
  (regS P I next stop o34_35 11 rest k env S = guardS P I next stop (env.getD 89 .undef) true o34_35 rest p34_35_11 k env S) ∧
  (doOp P I next stop o34_35 rest p34_35_11 k env S = bindS next (op1 P (evalV I env) S (.binOp .leq 3 (.tmp 90) (.tmp 91) 3)) (.inRegion o34_35 rest :: k) (some 92) env) ∧
  (regS P I next stop o34_35 12 rest k env S = bindS next (op1 P (evalV I env) S (.pick (.tmp 89) (.tmp 92) (.const (.bool false)))) (.inRegion o34_35 rest :: k) (some 93) env) ∧
  (regS P I next stop o34_41 0 rest k env S = bindS next (op1 P (evalV I env) S (.move (.tmp 5))) (.inRegion o34_41 rest :: k) (some 96) env) ∧
  (regS P I next stop o34_41 1 rest k env S = bindS next (op1 P (evalV I env) S (.binOp .add 3 (.tmp 96) (.const (.int .i64 1)) 3)) (.inRegion o34_41 rest :: k) (some 97) env) ∧
  (regS P I next stop o34_41 2 rest k env S = bindS next (op1 P (evalV I env) S (.move (.tmp 0))) (.inRegion o34_41 rest :: k) (some 98) env) ∧
  (regS P I next stop o34_41 3 rest k env S = bindS next (op1 P (evalV I env) S (.move (.tmp 6))) (.inRegion o34_41 rest :: k) (some 99) env) ∧
  (regS P I next stop o34_41 4 rest k env S = bindS next (op1 P (evalV I env) S (.indexAddr 54 (.tmp 98) (.tmp 99))) (.inRegion o34_41 rest :: k) (some 100) env) ∧
  (regS P I next stop o34_41 5 rest k env S = bindS next (op1 P (evalV I env) S (.fieldAddr 69 (.tmp 100) 7)) (.inRegion o34_41 rest :: k) (some 101) env) ∧
  (regS P I next stop o34_41 6 rest k env S = bindS next (op1 P (evalV I env) S (.load 67 (.tmp 101))) (.inRegion o34_41 rest :: k) (some 102) env) ∧
  (regS P I next stop o34_41 7 rest k env S = bindS next (op1 P (evalV I env) S (.move (.tmp 7))) (.inRegion o34_41 rest :: k) (some 103) env) ∧
  (regS P I next stop o34_41 8 rest k env S = bindS next (op1 P (evalV I env) S (.indexAddr 67 (.tmp 102) (.tmp 103))) (.inRegion o34_41 rest :: k) (some 104) env) ∧
  (regS P I next stop o34_41 9 rest k env S = bindS next (op1 P (evalV I env) S (.fieldAddr 94 (.tmp 104) 1)) (.inRegion o34_41 rest :: k) (some 105) env) ∧
  (regS P I next stop o34_41 10 rest k env S = bindS next (op1 P (evalV I env) S (.load 54 (.tmp 105))) (.inRegion o34_41 rest :: k) (some 106) env) ∧
  (regS P I next stop o34_41 11 rest k env S = bindS next (op1 P (evalV I env) S (.move (.tmp 1))) (.inRegion o34_41 rest :: k) (some 107) env) ∧
  (regS P I next stop o34_41 12 rest k env S = bindS next (op1 P (evalV I env) S (.move (.tmp 5))) (.inRegion o34_41 rest :: k) (some 108) env) ∧
  (regS P I next stop o34_41 13 rest k env S = bindS next (op1 P (evalV I env) S (.binOp .sub 3 (.tmp 107) (.tmp 108) 3)) (.inRegion o34_41 rest :: k) (some 109) env) ∧
  (regS P I next stop o34_41 14 rest k env S = callS P I stop (evalV I env (.func 34)) [evalV I env (.tmp 106), evalV I env (.tmp 109)] (.inRegion o34_41 rest :: k) (some 110) env S) ∧
  (regS P I next stop o34_41 15 rest k env S = bindS next (op1 P (evalV I env) S (.binOp .add 3 (.tmp 97) (.tmp 110) 3)) (.inRegion o34_41 rest :: k) (some 111) env) ∧
  (regS P I next stop o34_41 16 rest k env S = bindS next (op1 P (evalV I env) S (.assign (.tmp 111))) (.inRegion o34_41 rest :: k) (some 5) env) ∧
  (regS P I next stop o34_42 0 rest k env S = bindS next (op1 P (evalV I env) S (.move (.tmp 7))) (.inRegion o34_42 rest :: k) (some 94) env) ∧
  (regS P I next stop o34_42 1 rest k env S = bindS next (op1 P (evalV I env) S (.binOp .add 3 (.tmp 94) (.const (.int .i64 1)) 3)) (.inRegion o34_42 rest :: k) (some 95) env) ∧
  (regS P I next stop o34_42 2 rest k env S = bindS next (op1 P (evalV I env) S (.assign (.tmp 95))) (.inRegion o34_42 rest :: k) (some 7) env) ∧
  (regS P I next stop o34_43 0 rest k env S = bindS next (op1 P (evalV I env) S (.move (.tmp 6))) (.inRegion o34_43 rest :: k) (some 17) env) ∧
  (regS P I next stop o34_43 1 rest k env S = bindS next (op1 P (evalV I env) S (.binOp .add 3 (.tmp 17) (.const (.int .i64 1)) 3)) (.inRegion o34_43 rest :: k) (some 18) env) ∧
  (regS P I next stop o34_43 2 rest k env S = bindS next (op1 P (evalV I env) S (.assign (.tmp 18))) (.inRegion o34_43 rest :: k) (some 6) env) ∧
  (regS P I next stop o34_45 0 rest k env S = bindS next (op1 P (evalV I env) S (.move (.tmp 5))) (.inRegion o34_45 rest :: k) (some 112) env) ∧
  (regS P I next stop o34_45 1 rest k env S = bindS next (op1 P (evalV I env) S (.assign (.tmp 112))) (.inRegion o34_45 rest :: k) (some 4) env) := by
  repeat' apply And.intro
  all_goals kernel_rfl
theorem c34q (P : Program) (I : Inv) (nq : LCont) (S : Mem) (l : List Oper) (env : List V) : (stepQ P I o34_26 nq S p34_26_0 l env = bindQ nq S (op1 P (evalV I env) S (.move (.tmp 5))) l (some 39) env) ∧
  (stepQ P I o34_26 nq S p34_26_1 l env = bindQ nq S (op1 P (evalV I env) S (.move (.tmp 0))) l (some 40) env) ∧
  (stepQ P I o34_26 nq S p34_26_2 l env = bindQ nq S (op1 P (evalV I env) S (.move (.tmp 6))) l (some 41) env) ∧
  (stepQ P I o34_26 nq S p34_26_3 l env = bindQ nq S (op1 P (evalV I env) S (.indexAddr 54 (.tmp 40) (.tmp 41))) l (some 42) env) ∧
  (stepQ P I o34_26 nq S p34_26_4 l env = bindQ nq S (op1 P (evalV I env) S (.fieldAddr 69 (.tmp 42) 3)) l (some 43) env) ∧
  (stepQ P I o34_26 nq S p34_26_5 l env = bindQ nq S (op1 P (evalV I env) S (.load 36 (.tmp 43))) l (some 44) env) ∧
  (stepQ P I o34_26 nq S p34_26_6 l env = bindQ nq S (op1 P (evalV I env) S (.move (.tmp 1))) l (some 45) env) ∧
  (stepQ P I o34_26 nq S p34_26_7 l env = bindQ nq S (op1 P (evalV I env) S (.move (.tmp 5))) l (some 46) env) ∧
  (stepQ P I o34_26 nq S p34_26_8 l env = bindQ nq S (op1 P (evalV I env) S (.binOp .sub 3 (.tmp 45) (.tmp 46) 3)) l (some 47) env) ∧
  (stepQ P I o34_26 nq S p34_26_9 l env = callQ P I nq S { callee := .value (.func 57), args := #[.tmp 44, .tmp 47], argTypes := #[36, 3] } (evalV I env (.func 57)) [evalV I env (.tmp 44), evalV I env (.tmp 47)] l (some 48) env) ∧
  (stepQ P I o34_26 nq S p34_26_10 l env = bindQ nq S (op1 P (evalV I env) S (.binOp .add 3 (.tmp 39) (.tmp 48) 3)) l (some 49) env) ∧
  (stepQ P I o34_26 nq S p34_26_11 l env = bindQ nq S (op1 P (evalV I env) S (.move (.tmp 0))) l (some 50) env) ∧
  (stepQ P I o34_26 nq S p34_26_12 l env = bindQ nq S (op1 P (evalV I env) S (.move (.tmp 6))) l (some 51) env) ∧
  (stepQ P I o34_26 nq S p34_26_13 l env = bindQ nq S (op1 P (evalV I env) S (.indexAddr 54 (.tmp 50) (.tmp 51))) l (some 52) env) ∧
  (stepQ P I o34_26 nq S p34_26_14 l env = bindQ nq S (op1 P (evalV I env) S (.fieldAddr 69 (.tmp 52) 4)) l (some 53) env) ∧
  (stepQ P I o34_26 nq S p34_26_15 l env = bindQ nq S (op1 P (evalV I env) S (.load 36 (.tmp 53))) l (some 54) env) ∧
  (stepQ P I o34_26 nq S p34_26_16 l env = bindQ nq S (op1 P (evalV I env) S (.move (.tmp 1))) l (some 55) env) ∧
  (stepQ P I o34_26 nq S p34_26_17 l env = bindQ nq S (op1 P (evalV I env) S (.move (.tmp 5))) l (some 56) env) ∧
  (stepQ P I o34_26 nq S p34_26_18 l env = bindQ nq S (op1 P (evalV I env) S (.binOp .sub 3 (.tmp 55) (.tmp 56) 3)) l (some 57) env) ∧
  (stepQ P I o34_26 nq S p34_26_19 l env = callQ P I nq S { callee := .value (.func 57), args := #[.tmp 54, .tmp 57], argTypes := #[36, 3] } (evalV I env (.func 57)) [evalV I env (.tmp 54), evalV I env (.tmp 57)] l (some 58) env) ∧
  (stepQ P I o34_26 nq S p34_26_20 l env = bindQ nq S (op1 P (evalV I env) S (.binOp .add 3 (.tmp 49) (.tmp 58) 3)) l (some 59) env) ∧
  (stepQ P I o34_26 nq S p34_26_21 l env = bindQ nq S (op1 P (evalV I env) S (.assign (.tmp 59))) l (some 5) env) ∧
  (stepQ P I o34_28 nq S p34_28_0 l env = bindQ nq S (op1 P (evalV I env) S (.move (.tmp 5))) l (some 60) env) ∧
  (stepQ P I o34_28 nq S p34_28_1 l env = bindQ nq S (op1 P (evalV I env) S (.move (.tmp 0))) l (some 61) env) ∧
  (stepQ P I o34_28 nq S p34_28_2 l env = bindQ nq S (op1 P (evalV I env) S (.move (.tmp 6))) l (some 62) env) ∧
  (stepQ P I o34_28 nq S p34_28_3 l env = bindQ nq S (op1 P (evalV I env) S (.indexAddr 54 (.tmp 61) (.tmp 62))) l (some 63) env) ∧
  (stepQ P I o34_28 nq S p34_28_4 l env = bindQ nq S (op1 P (evalV I env) S (.fieldAddr 69 (.tmp 63) 5)) l (some 64) env) ∧
  (stepQ P I o34_28 nq S p34_28_5 l env = bindQ nq S (op1 P (evalV I env) S (.load 54 (.tmp 64))) l (some 65) env) ∧
  (stepQ P I o34_28 nq S p34_28_6 l env = bindQ nq S (op1 P (evalV I env) S (.move (.tmp 1))) l (some 66) env) ∧
  (stepQ P I o34_28 nq S p34_28_7 l env = bindQ nq S (op1 P (evalV I env) S (.move (.tmp 5))) l (some 67) env) ∧
  (stepQ P I o34_28 nq S p34_28_8 l env = bindQ nq S (op1 P (evalV I env) S (.binOp .sub 3 (.tmp 66) (.tmp 67) 3)) l (some 68) env) ∧
  (stepQ P I o34_28 nq S p34_28_9 l env = callQ P I nq S { callee := .value (.func 34), args := #[.tmp 65, .tmp 68], argTypes := #[54, 3] } (evalV I env (.func 34)) [evalV I env (.tmp 65), evalV I env (.tmp 68)] l (some 69) env) ∧
  (stepQ P I o34_28 nq S p34_28_10 l env = bindQ nq S (op1 P (evalV I env) S (.binOp .add 3 (.tmp 60) (.tmp 69) 3)) l (some 70) env) ∧
  (stepQ P I o34_28 nq S p34_28_11 l env = bindQ nq S (op1 P (evalV I env) S (.move (.tmp 0))) l (some 71) env) ∧
  (stepQ P I o34_28 nq S p34_28_12 l env = bindQ nq S (op1 P (evalV I env) S (.move (.tmp 6))) l (some 72) env) ∧
  (stepQ P I o34_28 nq S p34_28_13 l env = bindQ nq S (op1 P (evalV I env) S (.indexAddr 54 (.tmp 71) (.tmp 72))) l (some 73) env) ∧
  (stepQ P I o34_28 nq S p34_28_14 l env = bindQ nq S (op1 P (evalV I env) S (.fieldAddr 69 (.tmp 73) 6)) l (some 74) env) ∧
  (stepQ P I o34_28 nq S p34_28_15 l env = bindQ nq S (op1 P (evalV I env) S (.load 54 (.tmp 74))) l (some 75) env) ∧
  (stepQ P I o34_28 nq S p34_28_16 l env = bindQ nq S (op1 P (evalV I env) S (.move (.tmp 1))) l (some 76) env) ∧
  (stepQ P I o34_28 nq S p34_28_17 l env = bindQ nq S (op1 P (evalV I env) S (.move (.tmp 5))) l (some 77) env) ∧
  (stepQ P I o34_28 nq S p34_28_18 l env = bindQ nq S (op1 P (evalV I env) S (.binOp .sub 3 (.tmp 76) (.tmp 77) 3)) l (some 78) env) ∧
  (stepQ P I o34_28 nq S p34_28_19 l env = callQ P I nq S { callee := .value (.func 34), args := #[.tmp 75, .tmp 78], argTypes := #[54, 3] } (evalV I env (.func 34)) [evalV I env (.tmp 75), evalV I env (.tmp 78)] l (some 79) env) ∧
  (stepQ P I o34_28 nq S p34_28_20 l env = bindQ nq S (op1 P (evalV I env) S (.binOp .add 3 (.tmp 70) (.tmp 79) 3)) l (some 80) env) ∧
  (stepQ P I o34_28 nq S p34_28_21 l env = bindQ nq S (op1 P (evalV I env) S (.assign (.tmp 80))) l (some 5) env) := by
  repeat' apply And.intro
  all_goals kernel_rfl
theorem c34t  : (p34_11_5.dst = (some 13)) ∧
  (p34_11_6.dst = (some 14)) ∧
  (p34_11_7.dst = (some 15)) ∧
  (o34_26.toList = [p34_26_0, p34_26_1, p34_26_2, p34_26_3, p34_26_4, p34_26_5, p34_26_6, p34_26_7, p34_26_8, p34_26_9, p34_26_10, p34_26_11, p34_26_12, p34_26_13, p34_26_14, p34_26_15, p34_26_16, p34_26_17, p34_26_18, p34_26_19, p34_26_20, p34_26_21]) ∧
  (o34_28.toList = [p34_28_0, p34_28_1, p34_28_2, p34_28_3, p34_28_4, p34_28_5, p34_28_6, p34_28_7, p34_28_8, p34_28_9, p34_28_10, p34_28_11, p34_28_12, p34_28_13, p34_28_14, p34_28_15, p34_28_16, p34_28_17, p34_28_18, p34_28_19, p34_28_20, p34_28_21]) ∧
  (p34_35_9.dst = (some 90)) ∧
  (p34_35_10.dst = (some 91)) ∧
  (p34_35_11.dst = (some 92)) := by
  repeat' apply And.intro
  all_goals kernel_rfl
set_option linter.defProp false in
/-- All of these. -/
def c34 := And.intro @c34s ( And.intro @c34r ( And.intro @c34q (@c34t)))
noncomputable def k13_0 : Code := bodyOf Tryd.f13
noncomputable def k13_1 : Code := lft k13_0
noncomputable def o13_1 : Array Oper := opsOf k13_1
noncomputable def k13_2 : Code := rgt k13_0
noncomputable def k13_3 : Code := lft k13_2
noncomputable def o13_3 : Array Oper := opsOf k13_3
noncomputable def k13_4 : Code := rgt k13_2
noncomputable def k13_5 : Code := lft k13_4
noncomputable def k13_6 : Code := lft k13_5
noncomputable def o13_6 : Array Oper := opsOf k13_6
noncomputable def k13_7 : Code := rgt k13_5
noncomputable def k13_8 : Code := lft k13_7
noncomputable def k13_9 : Code := lft k13_8
noncomputable def k13_10 : Code := lft k13_9
noncomputable def k13_11 : Code := lft k13_10
noncomputable def o13_11 : Array Oper := opsOf k13_11
noncomputable def p13_11_6 : Oper := opAt o13_11 6
noncomputable def p13_11_7 : Oper := opAt o13_11 7
noncomputable def p13_11_8 : Oper := opAt o13_11 8
noncomputable def k13_12 : Code := rgt k13_10
noncomputable def k13_13 : Code := lft k13_12
noncomputable def k13_14 : Code := rgt k13_12
noncomputable def k13_15 : Code := rgt k13_9
noncomputable def k13_16 : Code := lft k13_15
noncomputable def k13_17 : Code := lft k13_16
noncomputable def o13_17 : Array Oper := opsOf k13_17
noncomputable def k13_18 : Code := rgt k13_15
noncomputable def o13_18 : Array Oper := opsOf k13_18
noncomputable def k13_19 : Code := rgt k13_4
noncomputable def k13_20 : Code := lft k13_19
noncomputable def k13_21 : Code := lft k13_20
noncomputable def o13_21 : Array Oper := opsOf k13_21
noncomputable def k13_22 : Code := rgt k13_20
noncomputable def k13_23 : Code := lft k13_22
noncomputable def k13_24 : Code := lft k13_23
noncomputable def k13_25 : Code := lft k13_24
noncomputable def k13_26 : Code := lft k13_25
noncomputable def o13_26 : Array Oper := opsOf k13_26
noncomputable def p13_26_6 : Oper := opAt o13_26 6
noncomputable def p13_26_7 : Oper := opAt o13_26 7
noncomputable def p13_26_8 : Oper := opAt o13_26 8
noncomputable def k13_27 : Code := rgt k13_25
noncomputable def k13_28 : Code := lft k13_27
noncomputable def k13_29 : Code := rgt k13_27
noncomputable def k13_30 : Code := rgt k13_24
noncomputable def k13_31 : Code := lft k13_30
noncomputable def k13_32 : Code := lft k13_31
noncomputable def k13_33 : Code := lft k13_32
noncomputable def o13_33 : Array Oper := opsOf k13_33
noncomputable def k13_34 : Code := rgt k13_32
noncomputable def k13_35 : Code := lft k13_34
noncomputable def k13_36 : Code := lft k13_35
noncomputable def o13_36 : Array Oper := opsOf k13_36
noncomputable def k13_37 : Code := rgt k13_35
noncomputable def k13_38 : Code := lft k13_37
noncomputable def k13_39 : Code := lft k13_38
noncomputable def k13_40 : Code := lft k13_39
noncomputable def k13_41 : Code := lft k13_40
noncomputable def o13_41 : Array Oper := opsOf k13_41
noncomputable def p13_41_10 : Oper := opAt o13_41 10
noncomputable def p13_41_11 : Oper := opAt o13_41 11
noncomputable def p13_41_12 : Oper := opAt o13_41 12
noncomputable def k13_42 : Code := rgt k13_40
noncomputable def k13_43 : Code := lft k13_42
noncomputable def k13_44 : Code := rgt k13_42
noncomputable def k13_45 : Code := rgt k13_39
noncomputable def k13_46 : Code := lft k13_45
noncomputable def k13_47 : Code := lft k13_46
noncomputable def o13_47 : Array Oper := opsOf k13_47
noncomputable def k13_48 : Code := rgt k13_45
noncomputable def o13_48 : Array Oper := opsOf k13_48
noncomputable def k13_49 : Code := rgt k13_34
noncomputable def o13_49 : Array Oper := opsOf k13_49
noncomputable def k13_50 : Code := rgt k13_30
noncomputable def o13_50 : Array Oper := opsOf k13_50
noncomputable def k13_51 : Code := rgt k13_19
noncomputable def k13_52 : Code := lft k13_51
noncomputable def k13_53 : Code := lft k13_52
noncomputable def o13_53 : Array Oper := opsOf k13_53
noncomputable def k13_54 : Code := rgt k13_52
noncomputable def k13_55 : Code := lft k13_54
noncomputable def k13_56 : Code := lft k13_55
noncomputable def o13_56 : Array Oper := opsOf k13_56
noncomputable def k13_57 : Code := rgt k13_55
noncomputable def k13_58 : Code := rgt k13_54
noncomputable def k13_59 : Code := rgt k13_51
noncomputable def k13_60 : Code := lft k13_59
noncomputable def o13_60 : Array Oper := opsOf k13_60
noncomputable def k13_61 : Code := rgt k13_59
theorem c13s (I : Inv) (next stop : Cont) (k : List Item) (env : List V) (S : Mem) : (codeS I next stop k13_1 k env S = next (.inRegion o13_1 [0, 1] :: k) env S) ∧
  (codeS I next stop k13_3 k env S = next (.inRegion o13_3 [0, 1, 2, 3, 4, 5, 6, 7] :: k) env S) ∧
  (codeS I next stop k13_6 k env S = next (.inRegion o13_6 [0] :: k) env S) ∧
  (codeS I next stop k13_11 k env S = next (.inRegion o13_11 [0, 1, 2, 3, 4, 5, 6, 7, 8, 9] :: k) env S) ∧
  (codeS I next stop k13_13 k env S = next k env S) ∧
  (codeS I next stop k13_14 k env S = exitV next (exitTo 0 k) env S) ∧
  (codeS I next stop k13_12 k env S = condV next (evalV I env (.tmp 25)) k13_13 k13_14 k env S) ∧
  (codeS I next stop k13_10 k env S = next (.code k13_11 :: .code k13_12 :: k) env S) ∧
  (codeS I next stop k13_17 k env S = next (.inRegion o13_17 [0, 1, 2, 3, 4, 5, 6, 7, 8, 9, 10, 11, 12] :: k) env S) ∧
  (codeS I next stop k13_16 k env S = next (.code k13_17 :: .inBlock 1 :: k) env S) ∧
  (codeS I next stop k13_18 k env S = next (.inRegion o13_18 [0, 1, 2] :: k) env S) ∧
  (codeS I next stop k13_15 k env S = next (.code k13_16 :: .code k13_18 :: k) env S) ∧
  (codeS I next stop k13_9 k env S = next (.code k13_10 :: .code k13_15 :: k) env S) ∧
  (codeS I next stop k13_8 k env S = stop (.code (.loop k13_9) :: k) env S) ∧
  (codeS I next stop k13_7 k env S = next (.code k13_8 :: .inBlock 0 :: k) env S) ∧
  (codeS I next stop k13_5 k env S = next (.code k13_6 :: .code k13_7 :: k) env S) ∧
  (codeS I next stop k13_21 k env S = next (.inRegion o13_21 [0] :: k) env S) ∧
  (codeS I next stop k13_26 k env S = next (.inRegion o13_26 [0, 1, 2, 3, 4, 5, 6, 7, 8, 9] :: k) env S) ∧
  (codeS I next stop k13_28 k env S = next k env S) ∧
  (codeS I next stop k13_29 k env S = exitV next (exitTo 2 k) env S) ∧
  (codeS I next stop k13_27 k env S = condV next (evalV I env (.tmp 49)) k13_28 k13_29 k env S) ∧
  (codeS I next stop k13_25 k env S = next (.code k13_26 :: .code k13_27 :: k) env S) ∧
  (codeS I next stop k13_33 k env S = next (.inRegion o13_33 [0, 1, 2, 3, 4, 5, 6, 7, 8, 9, 10, 11, 12] :: k) env S) ∧
  (codeS I next stop k13_36 k env S = next (.inRegion o13_36 [0] :: k) env S) ∧
  (codeS I next stop k13_41 k env S = next (.inRegion o13_41 [0, 1, 2, 3, 4, 5, 6, 7, 8, 9, 10, 11, 12, 13] :: k) env S) ∧
  (codeS I next stop k13_43 k env S = next k env S) ∧
  (codeS I next stop k13_44 k env S = exitV next (exitTo 4 k) env S) ∧
  (codeS I next stop k13_42 k env S = condV next (evalV I env (.tmp 77)) k13_43 k13_44 k env S) ∧
  (codeS I next stop k13_40 k env S = next (.code k13_41 :: .code k13_42 :: k) env S) ∧
  (codeS I next stop k13_47 k env S = next (.inRegion o13_47 [0, 1, 2, 3, 4, 5, 6, 7, 8, 9, 10, 11, 12, 13, 14, 15] :: k) env S) ∧
  (codeS I next stop k13_46 k env S = next (.code k13_47 :: .inBlock 5 :: k) env S) ∧
  (codeS I next stop k13_48 k env S = next (.inRegion o13_48 [0, 1, 2] :: k) env S) ∧
  (codeS I next stop k13_45 k env S = next (.code k13_46 :: .code k13_48 :: k) env S) ∧
  (codeS I next stop k13_39 k env S = next (.code k13_40 :: .code k13_45 :: k) env S) ∧
  (codeS I next stop k13_38 k env S = stop (.code (.loop k13_39) :: k) env S) ∧
  (codeS I next stop k13_37 k env S = next (.code k13_38 :: .inBlock 4 :: k) env S) ∧
  (codeS I next stop k13_35 k env S = next (.code k13_36 :: .code k13_37 :: k) env S) ∧
  (codeS I next stop k13_49 k env S = next (.inRegion o13_49 [0, 1, 2, 3, 4, 5, 6, 7, 8, 9, 10, 11, 12] :: k) env S) ∧
  (codeS I next stop k13_34 k env S = next (.code k13_35 :: .code k13_49 :: k) env S) ∧
  (codeS I next stop k13_32 k env S = next (.code k13_33 :: .code k13_34 :: k) env S) ∧
  (codeS I next stop k13_31 k env S = next (.code k13_32 :: .inBlock 3 :: k) env S) ∧
  (codeS I next stop k13_50 k env S = next (.inRegion o13_50 [0, 1, 2] :: k) env S) ∧
  (codeS I next stop k13_30 k env S = next (.code k13_31 :: .code k13_50 :: k) env S) ∧
  (codeS I next stop k13_24 k env S = next (.code k13_25 :: .code k13_30 :: k) env S) ∧
  (codeS I next stop k13_23 k env S = stop (.code (.loop k13_24) :: k) env S) ∧
  (codeS I next stop k13_22 k env S = next (.code k13_23 :: .inBlock 2 :: k) env S) ∧
  (codeS I next stop k13_20 k env S = next (.code k13_21 :: .code k13_22 :: k) env S) ∧
  (codeS I next stop k13_53 k env S = next (.inRegion o13_53 [0, 1, 2] :: k) env S) ∧
  (codeS I next stop k13_56 k env S = next (.inRegion o13_56 [0, 1, 2] :: k) env S) ∧
  (codeS I next stop k13_57 k env S = stop (.code .ret :: k) env S) ∧
  (codeS I next stop k13_55 k env S = next (.code k13_56 :: .code k13_57 :: k) env S) ∧
  (codeS I next stop k13_58 k env S = next k env S) ∧
  (codeS I next stop k13_54 k env S = condV next (evalV I env (.tmp 109)) k13_55 k13_58 k env S) ∧
  (codeS I next stop k13_52 k env S = next (.code k13_53 :: .code k13_54 :: k) env S) ∧
  (codeS I next stop k13_60 k env S = next (.inRegion o13_60 [0, 1] :: k) env S) ∧
  (codeS I next stop k13_61 k env S = stop (.code .ret :: k) env S) ∧
  (codeS I next stop k13_59 k env S = next (.code k13_60 :: .code k13_61 :: k) env S) ∧
  (codeS I next stop k13_51 k env S = next (.code k13_52 :: .code k13_59 :: k) env S) ∧
  (codeS I next stop k13_19 k env S = next (.code k13_20 :: .code k13_51 :: k) env S) ∧
  (codeS I next stop k13_4 k env S = next (.code k13_5 :: .code k13_19 :: k) env S) ∧
  (codeS I next stop k13_2 k env S = next (.code k13_3 :: .code k13_4 :: k) env S) ∧
  (codeS I next stop k13_0 k env S = next (.code k13_1 :: .code k13_2 :: k) env S) := by
  repeat' apply And.intro
  all_goals kernel_rfl
theorem c13r (P : Program) (I : Inv) (next stop : Cont) (rest : List Nat) (k : List Item) (env : List V) (S : Mem) : (regS P I next stop o13_1 0 rest k env S = bindS next (op1 P (evalV I env) S (.box 25 (.tmp 0))) (.inRegion o13_1 rest :: k) (some 2) env) ∧
  (regS P I next stop o13_1 1 rest k env S = bindS next (op1 P (evalV I env) S (.assign (.const (.int .i64 0)))) (.inRegion o13_1 rest :: k) (some 4) env) ∧
  (regS P I next stop o13_3 0 rest k env S = bindS next (op1 P (evalV I env) S (.fieldAddr 25 (.tmp 2) 0)) (.inRegion o13_3 rest :: k) (some 9) env) ∧
  (regS P I next stop o13_3 1 rest k env S = bindS next (op1 P (evalV I env) S (.load 22 (.tmp 9))) (.inRegion o13_3 rest :: k) (some 10) env) ∧
  (regS P I next stop o13_3 2 rest k env S = bindS next (opCall P (evalV I env) S { callee := .builtin .len, args := #[.tmp 10], argTypes := #[22] }) (.inRegion o13_3 rest :: k) (some 11) env) ∧
  (regS P I next stop o13_3 3 rest k env S = bindS next (op1 P (evalV I env) S (.fieldAddr 25 (.tmp 2) 1)) (.inRegion o13_3 rest :: k) (some 12) env) ∧
  (regS P I next stop o13_3 4 rest k env S = bindS next (op1 P (evalV I env) S (.load 23 (.tmp 12))) (.inRegion o13_3 rest :: k) (some 13) env) ∧
  (regS P I next stop o13_3 5 rest k env S = bindS next (opCall P (evalV I env) S { callee := .builtin .len, args := #[.tmp 13], argTypes := #[23] }) (.inRegion o13_3 rest :: k) (some 14) env) ∧
  (regS P I next stop o13_3 6 rest k env S = bindS next (op1 P (evalV I env) S (.binOp .add 3 (.tmp 11) (.tmp 14) 3)) (.inRegion o13_3 rest :: k) (some 15) env) ∧
  (regS P I next stop o13_3 7 rest k env S = bindS next (op1 P (evalV I env) S (.assign (.tmp 15))) (.inRegion o13_3 rest :: k) (some 5) env) ∧
  (regS P I next stop o13_6 0 rest k env S = bindS next (op1 P (evalV I env) S (.assign (.const (.int .i64 0)))) (.inRegion o13_6 rest :: k) (some 6) env) ∧
  (regS P I next stop o13_11 0 rest k env S = bindS next (op1 P (evalV I env) S (.move (.tmp 6))) (.inRegion o13_11 rest :: k) (some 16) env) ∧
  (regS P I next stop o13_11 1 rest k env S = bindS next (op1 P (evalV I env) S (.fieldAddr 25 (.tmp 2) 0)) (.inRegion o13_11 rest :: k) (some 17) env) ∧
  (regS P I next stop o13_11 2 rest k env S = bindS next (op1 P (evalV I env) S (.load 22 (.tmp 17))) (.inRegion o13_11 rest :: k) (some 18) env) ∧
  (regS P I next stop o13_11 3 rest k env S = bindS next (opCall P (evalV I env) S { callee := .builtin .len, args := #[.tmp 18], argTypes := #[22] }) (.inRegion o13_11 rest :: k) (some 19) env) ∧
  (regS P I next stop o13_11 4 rest k env S = bindS next (op1 P (evalV I env) S (.binOp .lss 3 (.tmp 16) (.tmp 19) 3)) (.inRegion o13_11 rest :: k) (some 20) env) ∧
  (regS P I next stop o13_11 5 rest k env S = bindS next (op1 P (evalV I env) S (.move (.tmp 20))) (.inRegion o13_11 rest :: k) (some 21) env) ∧
  (regS P I next stop o13_11 6 rest k env S = guardS P I next stop (env.getD 21 .undef) true o13_11 rest p13_11_6 k env S) ∧
  (doOp P I next stop o13_11 rest p13_11_6 k env S = bindS next (op1 P (evalV I env) S (.move (.tmp 5))) (.inRegion o13_11 rest :: k) (some 22) env) ∧
  (regS P I next stop o13_11 7 rest k env S = guardS P I next stop (env.getD 21 .undef) true o13_11 rest p13_11_7 k env S) ∧
  (doOp P I next stop o13_11 rest p13_11_7 k env S = bindS next (op1 P (evalV I env) S (.move (.tmp 1))) (.inRegion o13_11 rest :: k) (some 23) env) ∧
  (regS P I next stop o13_11 8 rest k env S = guardS P I next stop (env.getD 21 .undef) true o13_11 rest p13_11_8 k env S) ∧
  (doOp P I next stop o13_11 rest p13_11_8 k env S = bindS next (op1 P (evalV I env) S (.binOp .leq 3 (.tmp 22) (.tmp 23) 3)) (.inRegion o13_11 rest :: k) (some 24) env) ∧
  (regS P I next stop o13_11 9 rest k env S = bindS next (op1 P (evalV I env) S (.pick (.tmp 21) (.tmp 24) (.const (.bool false)))) (.inRegion o13_11 rest :: k) (some 25) env) ∧
  (regS P I next stop o13_17 0 rest k env S = bindS next (op1 P (evalV I env) S (.move (.tmp 5))) (.inRegion o13_17 rest :: k) (some 28) env) ∧
  (regS P I next stop o13_17 1 rest k env S = bindS next (op1 P (evalV I env) S (.fieldAddr 25 (.tmp 2) 0)) (.inRegion o13_17 rest :: k) (some 29) env) ∧
  (regS P I next stop o13_17 2 rest k env S = bindS next (op1 P (evalV I env) S (.load 22 (.tmp 29))) (.inRegion o13_17 rest :: k) (some 30) env) ∧
  (regS P I next stop o13_17 3 rest k env S = bindS next (op1 P (evalV I env) S (.move (.tmp 6))) (.inRegion o13_17 rest :: k) (some 31) env) ∧
  (regS P I next stop o13_17 4 rest k env S = bindS next (op1 P (evalV I env) S (.indexAddr 22 (.tmp 30) (.tmp 31))) (.inRegion o13_17 rest :: k) (some 32) env) ∧
  (regS P I next stop o13_17 5 rest k env S = bindS next (op1 P (evalV I env) S (.fieldAddr 52 (.tmp 32) 1)) (.inRegion o13_17 rest :: k) (some 33) env) ∧
  (regS P I next stop o13_17 6 rest k env S = bindS next (op1 P (evalV I env) S (.load 50 (.tmp 33))) (.inRegion o13_17 rest :: k) (some 34) env) ∧
  (regS P I next stop o13_17 7 rest k env S = bindS next (op1 P (evalV I env) S (.move (.tmp 1))) (.inRegion o13_17 rest :: k) (some 35) env) ∧
  (regS P I next stop o13_17 8 rest k env S = bindS next (op1 P (evalV I env) S (.move (.tmp 5))) (.inRegion o13_17 rest :: k) (some 36) env) ∧
  (regS P I next stop o13_17 9 rest k env S = bindS next (op1 P (evalV I env) S (.binOp .sub 3 (.tmp 35) (.tmp 36) 3)) (.inRegion o13_17 rest :: k) (some 37) env) ∧
  (regS P I next stop o13_17 10 rest k env S = callS P I stop (evalV I env (.func 32)) [evalV I env (.tmp 34), evalV I env (.tmp 37)] (.inRegion o13_17 rest :: k) (some 38) env S) ∧
  (regS P I next stop o13_17 11 rest k env S = bindS next (op1 P (evalV I env) S (.binOp .add 3 (.tmp 28) (.tmp 38) 3)) (.inRegion o13_17 rest :: k) (some 39) env) ∧
  (regS P I next stop o13_17 12 rest k env S = bindS next (op1 P (evalV I env) S (.assign (.tmp 39))) (.inRegion o13_17 rest :: k) (some 5) env) ∧
  (regS P I next stop o13_18 0 rest k env S = bindS next (op1 P (evalV I env) S (.move (.tmp 6))) (.inRegion o13_18 rest :: k) (some 26) env) ∧
  (regS P I next stop o13_18 1 rest k env S = bindS next (op1 P (evalV I env) S (.binOp .add 3 (.tmp 26) (.const (.int .i64 1)) 3)) (.inRegion o13_18 rest :: k) (some 27) env) ∧
  (regS P I next stop o13_18 2 rest k env S = bindS next (op1 P (evalV I env) S (.assign (.tmp 27))) (.inRegion o13_18 rest :: k) (some 6) env) ∧
  (regS P I next stop o13_21 0 rest k env S = bindS next (op1 P (evalV I env) S (.assign (.const (.int .i64 0)))) (.inRegion o13_21 rest :: k) (some 7) env) ∧
  (regS P I next stop o13_26 0 rest k env S = bindS next (op1 P (evalV I env) S (.move (.tmp 7))) (.inRegion o13_26 rest :: k) (some 40) env) ∧
  (regS P I next stop o13_26 1 rest k env S = bindS next (op1 P (evalV I env) S (.fieldAddr 25 (.tmp 2) 1)) (.inRegion o13_26 rest :: k) (some 41) env) ∧
  (regS P I next stop o13_26 2 rest k env S = bindS next (op1 P (evalV I env) S (.load 23 (.tmp 41))) (.inRegion o13_26 rest :: k) (some 42) env) ∧
  (regS P I next stop o13_26 3 rest k env S = bindS next (opCall P (evalV I env) S { callee := .builtin .len, args := #[.tmp 42], argTypes := #[23] }) (.inRegion o13_26 rest :: k) (some 43) env) ∧
  (regS P I next stop o13_26 4 rest k env S = bindS next (op1 P (evalV I env) S (.binOp .lss 3 (.tmp 40) (.tmp 43) 3)) (.inRegion o13_26 rest :: k) (some 44) env) ∧
  (regS P I next stop o13_26 5 rest k env S = bindS next (op1 P (evalV I env) S (.move (.tmp 44))) (.inRegion o13_26 rest :: k) (some 45) env) ∧
  (regS P I next stop o13_26 6 rest k env S = guardS P I next stop (env.getD 45 .undef) true o13_26 rest p13_26_6 k env S) ∧
  (doOp P I next stop o13_26 rest p13_26_6 k env S = bindS next (op1 P (evalV I env) S (.move (.tmp 5))) (.inRegion o13_26 rest :: k) (some 46) env) ∧
  (regS P I next stop o13_26 7 rest k env S = guardS P I next stop (env.getD 45 .undef) true o13_26 rest p13_26_7 k env S) ∧
  (doOp P I next stop o13_26 rest p13_26_7 k env S = bindS next (op1 P (evalV I env) S (.move (.tmp 1))) (.inRegion o13_26 rest :: k) (some 47) env) ∧
  (regS P I next stop o13_26 8 rest k env S = guardS P I next stop (env.getD 45 .undef) true o13_26 rest p13_26_8 k env S) ∧
  (doOp P I next stop o13_26 rest p13_26_8 k env S = bindS next (op1 P (evalV I env) S (.binOp .leq 3 (.tmp 46) (.tmp 47) 3)) (.inRegion o13_26 rest :: k) (some 48) env) ∧
  (regS P I next stop o13_26 9 rest k env S = bindS next (op1 P (evalV I env) S (.pick (.tmp 45) (.tmp 48) (.const (.bool false)))) (.inRegion o13_26 rest :: k) (some 49) env) ∧
  (regS P I next stop o13_33 0 rest k env S = bindS next (op1 P (evalV I env) S (.move (.tmp 5))) (.inRegion o13_33 rest :: k) (some 52) env) ∧
  (regS P I next stop o13_33 1 rest k env S = bindS next (op1 P (evalV I env) S (.fieldAddr 25 (.tmp 2) 1)) (.inRegion o13_33 rest :: k) (some 53) env) ∧
  (regS P I next stop o13_33 2 rest k env S = bindS next (op1 P (evalV I env) S (.load 23 (.tmp 53))) (.inRegion o13_33 rest :: k) (some 54) env) ∧
  (regS P I next stop o13_33 3 rest k env S = bindS next (op1 P (evalV I env) S (.move (.tmp 7))) (.inRegion o13_33 rest :: k) (some 55) env) ∧
  (regS P I next stop o13_33 4 rest k env S = bindS next (op1 P (evalV I env) S (.indexAddr 23 (.tmp 54) (.tmp 55))) (.inRegion o13_33 rest :: k) (some 56) env) ∧
  (regS P I next stop o13_33 5 rest k env S = bindS next (op1 P (evalV I env) S (.fieldAddr 56 (.tmp 56) 1)) (.inRegion o13_33 rest :: k) (some 57) env) ∧
  (regS P I next stop o13_33 6 rest k env S = bindS next (op1 P (evalV I env) S (.load 50 (.tmp 57))) (.inRegion o13_33 rest :: k) (some 58) env) ∧
  (regS P I next stop o13_33 7 rest k env S = bindS next (op1 P (evalV I env) S (.move (.tmp 1))) (.inRegion o13_33 rest :: k) (some 59) env) ∧
  (regS P I next stop o13_33 8 rest k env S = bindS next (op1 P (evalV I env) S (.move (.tmp 5))) (.inRegion o13_33 rest :: k) (some 60) env) ∧
  (regS P I next stop o13_33 9 rest k env S = bindS next (op1 P (evalV I env) S (.binOp .sub 3 (.tmp 59) (.tmp 60) 3)) (.inRegion o13_33 rest :: k) (some 61) env) ∧
  (regS P I next stop o13_33 10 rest k env S = callS P I stop (evalV I env (.func 32)) [evalV I env (.tmp 58), evalV I env (.tmp 61)] (.inRegion o13_33 rest :: k) (some 62) env S) ∧
  (regS P I next stop o13_33 11 rest k env S = bindS next (op1 P (evalV I env) S (.binOp .add 3 (.tmp 52) (.tmp 62) 3)) (.inRegion o13_33 rest :: k) (some 63) env) ∧
  (regS P I next stop o13_33 12 rest k env S = bindS next (op1 P (evalV I env) S (.assign (.tmp 63))) (.inRegion o13_33 rest :: k) (some 5) env) ∧
  (regS P I next stop o13_36 0 rest k env S = bindS next (op1 P (evalV I env) S (.assign (.const (.int .i64 0)))) (.inRegion o13_36 rest :: k) (some 8) env) ∧
  (regS P I next stop o13_41 0 rest k env S = bindS next (op1 P (evalV I env) S (.move (.tmp 8))) (.inRegion o13_41 rest :: k) (some 64) env) ∧
  (regS P I next stop o13_41 1 rest k env S = bindS next (op1 P (evalV I env) S (.fieldAddr 25 (.tmp 2) 1)) (.inRegion o13_41 rest :: k) (some 65) env) ∧
  (regS P I next stop o13_41 2 rest k env S = bindS next (op1 P (evalV I env) S (.load 23 (.tmp 65))) (.inRegion o13_41 rest :: k) (some 66) env) ∧
  (regS P I next stop o13_41 3 rest k env S = bindS next (op1 P (evalV I env) S (.move (.tmp 7))) (.inRegion o13_41 rest :: k) (some 67) env) ∧
  (regS P I next stop o13_41 4 rest k env S = bindS next (op1 P (evalV I env) S (.indexAddr 23 (.tmp 66) (.tmp 67))) (.inRegion o13_41 rest :: k) (some 68) env) ∧
  (regS P I next stop o13_41 5 rest k env S = bindS next (op1 P (evalV I env) S (.fieldAddr 56 (.tmp 68) 2)) (.inRegion o13_41 rest :: k) (some 69) env) ∧
  (regS P I next stop o13_41 6 rest k env S = bindS next (op1 P (evalV I env) S (.load 32 (.tmp 69))) (.inRegion o13_41 rest :: k) (some 70) env) ∧
  (regS P I next stop o13_41 7 rest k env S = bindS next (opCall P (evalV I env) S { callee := .builtin .len, args := #[.tmp 70], argTypes := #[32] }) (.inRegion o13_41 rest :: k) (some 71) env) ∧
  (regS P I next stop o13_41 8 rest k env S = bindS next (op1 P (evalV I env) S (.binOp .lss 3 (.tmp 64) (.tmp 71) 3)) (.inRegion o13_41 rest :: k) (some 72) env) ∧
  (regS P I next stop o13_41 9 rest k env S = bindS next (op1 P (evalV I env) S (.move (.tmp 72))) (.inRegion o13_41 rest :: k) (some 73) env) ∧
  (regS P I next stop o13_41 10 rest k env S = guardS P I next stop (env.getD 73 .undef) true o13_41 rest p13_41_10 k env S) ∧
  (doOp P I next stop o13_41 rest p13_41_10 k env S = bindS next (op1 P (evalV I env) S (.move (.tmp 5))) (.inRegion o13_41 rest :: k) (some 74) env) ∧
  (regS P I next stop o13_41 11 rest k env S = guardS P I next stop (env.getD 73 .undef) true o13_41 rest p13_41_11 k env S) ∧
  (doOp P I next stop o13_41 rest p13_41_11 k env S = bindS next (op1 P (evalV I env) S (.move (.tmp 1))) (.inRegion o13_41 rest :: k) (some 75) env) ∧
  (regS P I next stop o13_41 12 rest k env S = guardS P I next stop (env.getD 73 .undef) true o13_41 rest p13_41_12 k env S) ∧
  (doOp P I next stop o13_41 rest p13_41_12 k env S = bindS next (op1 P (evalV I env) S (.binOp .leq 3 (.tmp 74) (.tmp 75) 3)) (.inRegion o13_41 rest :: k) (some 76) env) ∧
  (regS P I next stop o13_41 13 rest k env S = bindS next (op1 P (evalV I env) S (.pick (.tmp 73) (.tmp 76) (.const (.bool false)))) (.inRegion o13_41 rest :: k) (some 77) env) ∧
  (regS P I next stop o13_47 0 rest k env S = bindS next (op1 P (evalV I env) S (.move (.tmp 5))) (.inRegion o13_47 rest :: k) (some 80) env) ∧
  (regS P I next stop o13_47 1 rest k env S = bindS next (op1 P (evalV I env) S (.fieldAddr 25 (.tmp 2) 1)) (.inRegion o13_47 rest :: k) (some 81) env) ∧
  (regS P I next stop o13_47 2 rest k env S = bindS next (op1 P (evalV I env) S (.load 23 (.tmp 81))) (.inRegion o13_47 rest :: k) (some 82) env) ∧
  (regS P I next stop o13_47 3 rest k env S = bindS next (op1 P (evalV I env) S (.move (.tmp 7))) (.inRegion o13_47 rest :: k) (some 83) env) ∧
  (regS P I next stop o13_47 4 rest k env S = bindS next (op1 P (evalV I env) S (.indexAddr 23 (.tmp 82) (.tmp 83))) (.inRegion o13_47 rest :: k) (some 84) env) ∧
  (regS P I next stop o13_47 5 rest k env S = bindS next (op1 P (evalV I env) S (.fieldAddr 56 (.tmp 84) 2)) (.inRegion o13_47 rest :: k) (some 85) env) ∧
  (regS P I next stop o13_47 6 rest k env S = bindS next (op1 P (evalV I env) S (.load 32 (.tmp 85))) (.inRegion o13_47 rest :: k) (some 86) env) ∧
  (regS P I next stop o13_47 7 rest k env S = bindS next (op1 P (evalV I env) S (.move (.tmp 8))) (.inRegion o13_47 rest :: k) (some 87) env) ∧
  (regS P I next stop o13_47 8 rest k env S = bindS next (op1 P (evalV I env) S (.indexAddr 32 (.tmp 86) (.tmp 87))) (.inRegion o13_47 rest :: k) (some 88) env) ∧
  (regS P I next stop o13_47 9 rest k env S = bindS next (op1 P (evalV I env) S (.load 34 (.tmp 88))) (.inRegion o13_47 rest :: k) (some 89) env) ∧
  (regS P I next stop o13_47 10 rest k env S = bindS next (op1 P (evalV I env) S (.move (.tmp 1))) (.inRegion o13_47 rest :: k) (some 90) env) ∧
  (regS P I next stop o13_47 11 rest k env S = bindS next (op1 P (evalV I env) S (.move (.tmp 5))) (.inRegion o13_47 rest :: k) (some 91) env) ∧
  (regS P I next stop o13_47 12 rest k env S = bindS next (op1 P (evalV I env) S (.binOp .sub 3 (.tmp 90) (.tmp 91) 3)) (.inRegion o13_47 rest :: k) (some 92) env) ∧
  (regS P I next stop o13_47 13 rest k env S = callS P I stop (evalV I env (.func 33)) [evalV I env (.tmp 89), evalV I env (.tmp 92)] (.inRegion o13_47 rest :: k) (some 93) env S) ∧
  (regS P I next stop o13_47 14 rest k env S = bindS next (op1 P (evalV I env) S (.binOp .add 3 (.tmp 80) (.tmp 93) 3)) (.inRegion o13_47 rest :: k) (some 94) env) ∧
  (regS P I next stop o13_47 15 rest k env S = bindS next (op1 P (evalV I env) S (.assign (.tmp 94))) (.inRegion o13_47 rest :: k) (some 5) env) ∧
  (regS P I next stop o13_48 0 rest k env S = bindS next (op1 P (evalV I env) S (.move (.tmp 8))) (.inRegion o13_48 rest :: k) (some 78) env) ∧
  (regS P I next stop o13_48 1 rest k env S = bindS next (op1 P (evalV I env) S (.binOp .add 3 (.tmp 78) (.const (.int .i64 1)) 3)) (.inRegion o13_48 rest :: k) (some 79) env) ∧
  (regS P I next stop o13_48 2 rest k env S = bindS next (op1 P (evalV I env) S (.assign (.tmp 79))) (.inRegion o13_48 rest :: k) (some 8) env) ∧
  (regS P I next stop o13_49 0 rest k env S = bindS next (op1 P (evalV I env) S (.move (.tmp 5))) (.inRegion o13_49 rest :: k) (some 95) env) ∧
  (regS P I next stop o13_49 1 rest k env S = bindS next (op1 P (evalV I env) S (.fieldAddr 25 (.tmp 2) 1)) (.inRegion o13_49 rest :: k) (some 96) env) ∧
  (regS P I next stop o13_49 2 rest k env S = bindS next (op1 P (evalV I env) S (.load 23 (.tmp 96))) (.inRegion o13_49 rest :: k) (some 97) env) ∧
  (regS P I next stop o13_49 3 rest k env S = bindS next (op1 P (evalV I env) S (.move (.tmp 7))) (.inRegion o13_49 rest :: k) (some 98) env) ∧
  (regS P I next stop o13_49 4 rest k env S = bindS next (op1 P (evalV I env) S (.indexAddr 23 (.tmp 97) (.tmp 98))) (.inRegion o13_49 rest :: k) (some 99) env) ∧
  (regS P I next stop o13_49 5 rest k env S = bindS next (op1 P (evalV I env) S (.fieldAddr 56 (.tmp 99) 3)) (.inRegion o13_49 rest :: k) (some 100) env) ∧
  (regS P I next stop o13_49 6 rest k env S = bindS next (op1 P (evalV I env) S (.load 54 (.tmp 100))) (.inRegion o13_49 rest :: k) (some 101) env) ∧
  (regS P I next stop o13_49 7 rest k env S = bindS next (op1 P (evalV I env) S (.move (.tmp 1))) (.inRegion o13_49 rest :: k) (some 102) env) ∧
  (regS P I next stop o13_49 8 rest k env S = bindS next (op1 P (evalV I env) S (.move (.tmp 5))) (.inRegion o13_49 rest :: k) (some 103) env) ∧
  (regS P I next stop o13_49 9 rest k env S = bindS next (op1 P (evalV I env) S (.binOp .sub 3 (.tmp 102) (.tmp 103) 3)) (.inRegion o13_49 rest :: k) (some 104) env) ∧
  (regS P I next stop o13_49 10 rest k env S = callS P I stop (evalV I env (.func 34)) [evalV I env (.tmp 101), evalV I env (.tmp 104)] (.inRegion o13_49 rest :: k) (some 105) env S) ∧
  (regS P I next stop o13_49 11 rest k env S = bindS next (op1 P (evalV I env) S (.binOp .add 3 (.tmp 95) (.tmp 105) 3)) (.inRegion o13_49 rest :: k) (some 106) env) ∧
  (regS P I next stop o13_49 12 rest k env S = bindS next (op1 P (evalV I env) S (.assign (.tmp 106))) (.inRegion o13_49 rest :: k) (some 5) env) ∧
  (regS P I next stop o13_50 0 rest k env S = bindS next (op1 P (evalV I env) S (.move (.tmp 7))) (.inRegion o13_50 rest :: k) (some 50) env) ∧
  (regS P I next stop o13_50 1 rest k env S = bindS next (op1 P (evalV I env) S (.binOp .add 3 (.tmp 50) (.const (.int .i64 1)) 3)) (.inRegion o13_50 rest :: k) (some 51) env) ∧
  (regS P I next stop o13_50 2 rest k env S = bindS next (op1 P (evalV I env) S (.assign (.tmp 51))) (.inRegion o13_50 rest :: k) (some 7) env) ∧
  (regS P I next stop o13_53 0 rest k env S = bindS next (op1 P (evalV I env) S (.move (.tmp 5))) (.inRegion o13_53 rest :: k) (some 107) env) ∧
  (regS P I next stop o13_53 1 rest k env S = bindS next (op1 P (evalV I env) S (.move (.tmp 1))) (.inRegion o13_53 rest :: k) (some 108) env) ∧
  (regS P I next stop o13_53 2 rest k env S = bindS next (op1 P (evalV I env) S (.binOp .gtr 3 (.tmp 107) (.tmp 108) 3)) (.inRegion o13_53 rest :: k) (some 109) env) ∧
  (regS P I next stop o13_56 0 rest k env S = bindS next (op1 P (evalV I env) S (.move (.tmp 1))) (.inRegion o13_56 rest :: k) (some 110) env) ∧
  (regS P I next stop o13_56 1 rest k env S = bindS next (op1 P (evalV I env) S (.binOp .add 3 (.tmp 110) (.const (.int .i64 1)) 3)) (.inRegion o13_56 rest :: k) (some 111) env) ∧
  (regS P I next stop o13_56 2 rest k env S = bindS next (op1 P (evalV I env) S (.assign (.tmp 111))) (.inRegion o13_56 rest :: k) (some 4) env) ∧
  (regS P I next stop o13_60 0 rest k env S = bindS next (op1 P (evalV I env) S (.move (.tmp 5))) (.inRegion o13_60 rest :: k) (some 112) env) ∧
  (regS P I next stop o13_60 1 rest k env S = bindS next (op1 P (evalV I env) S (.assign (.tmp 112))) (.inRegion o13_60 rest :: k) (some 4) env) := by
  repeat' apply And.intro
  all_goals kernel_rfl
theorem c13t  : (p13_11_6.dst = (some 22)) ∧
  (p13_11_7.dst = (some 23)) ∧
  (p13_11_8.dst = (some 24)) ∧
  (p13_26_6.dst = (some 46)) ∧
  (p13_26_7.dst = (some 47)) ∧
  (p13_26_8.dst = (some 48)) ∧
  (p13_41_10.dst = (some 74)) ∧
  (p13_41_11.dst = (some 75)) ∧
  (p13_41_12.dst = (some 76)) := by
  repeat' apply And.intro
  all_goals kernel_rfl
set_option linter.defProp false in
/-- All of these. -/
def c13 := And.intro @c13s ( And.intro @c13r (@c13t))
noncomputable def k5_0 : Code := bodyOf Tryd.f5
noncomputable def k5_1 : Code := lft k5_0
noncomputable def o5_1 : Array Oper := opsOf k5_1
noncomputable def k5_2 : Code := rgt k5_0
noncomputable def k5_3 : Code := lft k5_2
noncomputable def o5_3 : Array Oper := opsOf k5_3
noncomputable def k5_4 : Code := rgt k5_2
theorem c5s (I : Inv) (next stop : Cont) (k : List Item) (env : List V) (S : Mem) : (codeS I next stop k5_1 k env S = next (.inRegion o5_1 [0, 1] :: k) env S) ∧
  (codeS I next stop k5_3 k env S = next (.inRegion o5_3 [0, 1, 2, 3] :: k) env S) ∧
  (codeS I next stop k5_4 k env S = stop (.code .ret :: k) env S) ∧
  (codeS I next stop k5_2 k env S = next (.code k5_3 :: .code k5_4 :: k) env S) ∧
  (codeS I next stop k5_0 k env S = next (.code k5_1 :: .code k5_2 :: k) env S) := by
  repeat' apply And.intro
  all_goals kernel_rfl
theorem c5r (P : Program) (I : Inv) (next stop : Cont) (rest : List Nat) (k : List Item) (env : List V) (S : Mem) : (regS P I next stop o5_1 0 rest k env S = bindS next (op1 P (evalV I env) S (.box 25 (.tmp 0))) (.inRegion o5_1 rest :: k) (some 1) env) ∧
  (regS P I next stop o5_1 1 rest k env S = bindS next (op1 P (evalV I env) S (.assign (.const (.bool false)))) (.inRegion o5_1 rest :: k) (some 2) env) ∧
  (regS P I next stop o5_3 0 rest k env S = bindS next (op1 P (evalV I env) S (.load 25 (.tmp 1))) (.inRegion o5_3 rest :: k) (some 3) env) ∧
  (regS P I next stop o5_3 1 rest k env S = callS P I stop (evalV I env (.func 13)) [evalV I env (.tmp 3), evalV I env (.const (.int .i64 2500))] (.inRegion o5_3 rest :: k) (some 4) env S) ∧
  (regS P I next stop o5_3 2 rest k env S = bindS next (op1 P (evalV I env) S (.binOp .gtr 3 (.tmp 4) (.const (.int .i64 2500)) 3)) (.inRegion o5_3 rest :: k) (some 5) env) ∧
  (regS P I next stop o5_3 3 rest k env S = bindS next (op1 P (evalV I env) S (.assign (.tmp 5))) (.inRegion o5_3 rest :: k) (some 2) env) := by
  repeat' apply And.intro
  all_goals kernel_rfl
set_option linter.defProp false in
/-- All of these. -/
def c5 := And.intro @c5s (@c5r)

mutual
def spW : List StT → Int → Int → Int
  | [], n, _ => n
  | s :: l, n, m => if n ≤ m then spW l (s1W s n m) m else n
def s1W : StT → Int → Int → Int
  | .mk _ _ ty ls es b e cs, n, m =>
    csW cs (w64 (w64 (w64 (w64 (tyW ty (w64 (n + 1)) m + epW ls 0 (w64 (m - tyW ty (w64 (n + 1)) m))) + epW es 0 (w64 (m - tyW ty (w64 (n + 1)) m))) + spW b 0 (w64 (m - w64 (w64 (tyW ty (w64 (n + 1)) m + epW ls 0 (w64 (m - tyW ty (w64 (n + 1)) m))) + epW es 0 (w64 (m - tyW ty (w64 (n + 1)) m)))))) + spW e 0 (w64 (m - w64 (w64 (tyW ty (w64 (n + 1)) m + epW ls 0 (w64 (m - tyW ty (w64 (n + 1)) m))) + epW es 0 (w64 (m - tyW ty (w64 (n + 1)) m))))))) m
def csW : List CaT → Int → Int → Int
  | [], n, _ => n
  | .mk _ b :: l, n, m => if n ≤ m then csW l (w64 (w64 (n + 1) + spW b 0 (w64 (m - n)))) m else n
end
theorem csW_cons (k : CaT) (l : List CaT) (n m : Int) : csW (k :: l) n m = if n ≤ m then csW l (w64 (w64 (n + 1) + spW k.body 0 (w64 (m - n)))) m else n := by cases k; rw [csW]; rfl
theorem s1W_mk (s : StT) (n m n2 n3 : Int) (h2 : tyW s.type (w64 (n + 1)) m = n2) (h3 : w64 (w64 (n2 + epW s.lefts 0 (w64 (m - n2))) + epW s.exprs 0 (w64 (m - n2))) = n3) :
    s1W s n m = csW s.cases (w64 (w64 (n3 + spW s.body 0 (w64 (m - n3))) + spW s.els 0 (w64 (m - n3)))) m := by
  subst h2
  subst h3
  cases s
  rw [s1W]
  rfl
def PSt (l : List StT) : Prop := ∀ (m : Int) (S : Mem), AFn Tryd.prog TabI 34 [.d (.sl (l.map stD)), .d (.int .i64 m)] S (Same (.d (.int .i64 (spW l 0 m))) S)
set_option maxHeartbeats 4000000 in
theorem pstmts_step (l : List StT) (h : ∀ x ∈ l, PSt x.body ∧ PSt x.els ∧ ∀ k ∈ x.cases, PSt k.body) : PSt l := by
  intro m S
  refine AFn.same (v := .d (.int .i64 (spW l 0 m))) ?_ rfl rfl S
  generalize hres : spW l 0 m = res
  refine AFn.bodyE (body := k34_0) 113 Tryd.func34 (by kernel_rfl) (by kernel_rfl) (by kernel_rfl) (Nat.le_of_ble_eq_true rfl) fun hsm => ?_
  simp only [smL, sm, exV, stV, tyV, caV, paV, suV, fuV, prV, Bool.and_eq_true, decide_eq_true_eq, and_true, true_and, List.length_map, ssD_length] at hsm
  refine ARun.go 30 ?_
  simp -implicitDefEqProofs only [awC, awN, Nat.reduceAdd, Nat.reduceSub, Nat.reduceLT, Nat.reduceLeDiff, Nat.reduceEqDiff, Int.reduceToNat, Int.reduceEq, Int.reduceLT, Int.reduceLE, Int.reduceNeg, Int.reduceAdd, Int.reduceSub, Nat.reduceBEq, awT, c34, tys]
  refine ARun.loopW (fun a : Nat × Int => (envS 113 [(0, .d (.sl (l.map stD))), (1, .d (.int .i64 m)), (5, .d (.int .i64 a.2)), (6, .d (.int .i64 a.1))], ⟨[], []⟩)) (fun a => a.1 ≤ l.length ∧ spW (l.drop a.1) a.2 m = res) (fun a => l.length - a.1) (0, 0) ⟨by omega, hres⟩ ?_ rfl ?_
  · skip
    refine Agree.env _ ?_
    simp only [agree_cons, agree_nil, eq_self, and_self, true_and, and_true, Int.natCast_add, Int.natCast_one, Int.natCast_zero, envS_get, envS_eval, lk_cons, lk_nil, Nat.reduceBEq, Nat.reduceAdd, Nat.reduceSub, cond_true, cond_false]
  rintro ⟨i, q⟩ ⟨h1, h2⟩ ih
  dsimp only at h1 h2 ih ⊢
  by_cases hlt : i < l.length
  · have hw := wrap_in ((i : Int) + 1) (by omega)
    have hlt' : decide ((i : Int) < (l.length : Int)) = true := decide_eq_true (by omega)
    have hg := List.getElem?_eq_getElem hlt
    have hcx := h l[i] (List.getElem_mem hlt)
    rw [drop_get hlt] at h2
    obtain ⟨x, hx⟩ : ∃ x, l[i] = x := ⟨_, rfl⟩
    rw [hx] at hg h2 hcx
    obtain ⟨hxb, hxe, hxc⟩ := hcx
    have hpx := ptyp_ab x.type
    unfold PTy tyV at hpx
    have hz := none_ab x.type
    unfold tyV at hz
    rw [spW] at h2
    cases hle : decide (q ≤ m)
    · rw [if_neg (of_decide_eq_false hle)] at h2
      refine ARun.go 200 ?_
      simp -implicitDefEqProofs only [awC, awN, Nat.reduceAdd, Nat.reduceSub, Nat.reduceLT, Nat.reduceLeDiff, Nat.reduceEqDiff, Int.reduceToNat, Int.reduceEq, Int.reduceLT, Int.reduceLE, Int.reduceNeg, Int.reduceAdd, Int.reduceSub, Nat.reduceBEq, awT, c34, tys, hlt', hle]
      refine ARun.ret Tryd.func34 rfl (Left.empty ?_)
      rw [h2]
      exact ⟨rfl, rfl⟩
    rw [if_pos (of_decide_eq_true hle)] at h2
    obtain ⟨n2, hn2⟩ : ∃ n2, tyW x.type (w64 (q + 1)) m = n2 := ⟨_, rfl⟩
    obtain ⟨n3, hn3⟩ : ∃ n3, w64 (w64 (n2 + epW x.lefts 0 (w64 (m - n2))) + epW x.exprs 0 (w64 (m - n2))) = n3 := ⟨_, rfl⟩
    obtain ⟨n4, hn4⟩ : ∃ n4, w64 (w64 (n3 + spW x.body 0 (w64 (m - n3))) + spW x.els 0 (w64 (m - n3))) = n4 := ⟨_, rfl⟩
    rw [s1W_mk x q m n2 n3 hn2 hn3, hn4] at h2
    refine ARun.go 200 ?_
    simp -implicitDefEqProofs only [awC, awN, Nat.reduceAdd, Nat.reduceSub, Nat.reduceLT, Nat.reduceLeDiff, Nat.reduceEqDiff, Int.reduceToNat, Int.reduceEq, Int.reduceLT, Int.reduceLE, Int.reduceNeg, Int.reduceAdd, Int.reduceSub, Nat.reduceBEq, awT, c34, tys, List.getElem?_map, hg, hlt', hle, stD_eq]
    refine callS_fn (hz _) ?_
    rintro _ _ ⟨rfl, rfl⟩
    cases hzs : zeroS x.type
    case' false =>
      have ht : w64 (w64 (q + 1) + tpW x.type (w64 (m - w64 (q + 1)))) = n2 := by rw [← hn2]; exact (if_neg (by rw [hzs]; decide)).symm
      simp only [w64] at ht
      refine ARun.go 200 ?_
      simp -implicitDefEqProofs only [awC, awN, Nat.reduceAdd, Nat.reduceSub, Nat.reduceLT, Nat.reduceLeDiff, Nat.reduceEqDiff, Int.reduceToNat, Int.reduceEq, Int.reduceLT, Int.reduceLE, Int.reduceNeg, Int.reduceAdd, Int.reduceSub, Nat.reduceBEq, awT, c34, tys, List.getElem?_map, hg, hzs, stD_eq]
      refine callS_fn (hpx _ _) ?_
      rintro _ _ ⟨rfl, rfl⟩
      refine ARun.go 200 ?_
      simp -implicitDefEqProofs only [awC, awN, Nat.reduceAdd, Nat.reduceSub, Nat.reduceLT, Nat.reduceLeDiff, Nat.reduceEqDiff, Int.reduceToNat, Int.reduceEq, Int.reduceLT, Int.reduceLE, Int.reduceNeg, Int.reduceAdd, Int.reduceSub, Nat.reduceBEq, awT, c34, tys, List.getElem?_map, hg, stD_eq, ht]
    case' true =>
      have ht : w64 (q + 1) = n2 := by rw [← hn2]; exact (if_pos hzs).symm
      simp only [w64] at ht
      refine ARun.go 200 ?_
      simp -implicitDefEqProofs only [awC, awN, Nat.reduceAdd, Nat.reduceSub, Nat.reduceLT, Nat.reduceLeDiff, Nat.reduceEqDiff, Int.reduceToNat, Int.reduceEq, Int.reduceLT, Int.reduceLE, Int.reduceNeg, Int.reduceAdd, Int.reduceSub, Nat.reduceBEq, awT, c34, tys, List.getElem?_map, hg, hzs, stD_eq, ht]
    all_goals
      clear ht hn2 hle hz hpx
      simp only [w64] at hn3 hn4
      refine ARun.draw (by kernel_rfl) (by kernel_rfl) (lexQ_ok 60 _ _ ?_)
      simp -implicitDefEqProofs only [awC, awN, Nat.reduceAdd, Nat.reduceSub, Nat.reduceLT, Nat.reduceLeDiff, Nat.reduceEqDiff, Int.reduceToNat, Int.reduceEq, Int.reduceLT, Int.reduceLE, Int.reduceNeg, Int.reduceAdd, Int.reduceSub, Nat.reduceBEq, awT, c34, tys, List.getElem?_map, hg, stD_eq, hlt]
      refine ⟨_, pexprs_ab x.lefts _ _, ?_⟩
      simp -implicitDefEqProofs only [awC, awN, Nat.reduceAdd, Nat.reduceSub, Nat.reduceLT, Nat.reduceLeDiff, Nat.reduceEqDiff, Int.reduceToNat, Int.reduceEq, Int.reduceLT, Int.reduceLE, Int.reduceNeg, Int.reduceAdd, Int.reduceSub, Nat.reduceBEq, awT, c34, tys, List.getElem?_map, hg, stD_eq, hlt]
      refine ⟨_, pexprs_ab x.exprs _ _, ?_⟩
      simp -implicitDefEqProofs only [awC, awN, Nat.reduceAdd, Nat.reduceSub, Nat.reduceLT, Nat.reduceLeDiff, Nat.reduceEqDiff, Int.reduceToNat, Int.reduceEq, Int.reduceLT, Int.reduceLE, Int.reduceNeg, Int.reduceAdd, Int.reduceSub, Nat.reduceBEq, awT, c34, tys, List.getElem?_map, hg, stD_eq, hlt, hn3]
      refine ARun.go 20 ?_
      simp -implicitDefEqProofs only [awC, awN, Nat.reduceAdd, Nat.reduceSub, Nat.reduceLT, Nat.reduceLeDiff, Nat.reduceEqDiff, Int.reduceToNat, Int.reduceEq, Int.reduceLT, Int.reduceLE, Int.reduceNeg, Int.reduceAdd, Int.reduceSub, Nat.reduceBEq, awT, c34, tys, hn3]
      refine ARun.draw (by kernel_rfl) (by kernel_rfl) (lexQ_ok 60 _ _ ?_)
      simp -implicitDefEqProofs only [awC, awN, Nat.reduceAdd, Nat.reduceSub, Nat.reduceLT, Nat.reduceLeDiff, Nat.reduceEqDiff, Int.reduceToNat, Int.reduceEq, Int.reduceLT, Int.reduceLE, Int.reduceNeg, Int.reduceAdd, Int.reduceSub, Nat.reduceBEq, awT, c34, tys, List.getElem?_map, hg, stD_eq, hlt]
      refine ⟨_, hxb _ _, ?_⟩
      simp -implicitDefEqProofs only [awC, awN, Nat.reduceAdd, Nat.reduceSub, Nat.reduceLT, Nat.reduceLeDiff, Nat.reduceEqDiff, Int.reduceToNat, Int.reduceEq, Int.reduceLT, Int.reduceLE, Int.reduceNeg, Int.reduceAdd, Int.reduceSub, Nat.reduceBEq, awT, c34, tys, List.getElem?_map, hg, stD_eq, hlt]
      refine ⟨_, hxe _ _, ?_⟩
      simp -implicitDefEqProofs only [awC, awN, Nat.reduceAdd, Nat.reduceSub, Nat.reduceLT, Nat.reduceLeDiff, Nat.reduceEqDiff, Int.reduceToNat, Int.reduceEq, Int.reduceLT, Int.reduceLE, Int.reduceNeg, Int.reduceAdd, Int.reduceSub, Nat.reduceBEq, awT, c34, tys, List.getElem?_map, hg, stD_eq, hlt, hn4]
      refine ARun.go 20 ?_
      simp -implicitDefEqProofs only [awC, awN, Nat.reduceAdd, Nat.reduceSub, Nat.reduceLT, Nat.reduceLeDiff, Nat.reduceEqDiff, Int.reduceToNat, Int.reduceEq, Int.reduceLT, Int.reduceLE, Int.reduceNeg, Int.reduceAdd, Int.reduceSub, Nat.reduceBEq, awT, c34, tys, hn4]
      clear hn3 hn4
      refine ARun.loopW (fun b : Nat × Int => (envS 113 [(0, .d (.sl (l.map stD))), (1, .d (.int .i64 m)), (5, .d (.int .i64 b.2)), (6, .d (.int .i64 i)), (7, .d (.int .i64 b.1))], ⟨[], []⟩)) (fun b => b.1 ≤ x.cases.length ∧ spW (l.drop (i + 1)) (csW (x.cases.drop b.1) b.2 m) m = res) (fun b => x.cases.length - b.1) (0, n4) ⟨by omega, h2⟩ ?_ rfl ?_
      · skip
        refine Agree.env _ ?_
        simp only [agree_cons, agree_nil, eq_self, and_self, true_and, and_true, Int.natCast_add, Int.natCast_one, Int.natCast_zero, envS_get, envS_eval, lk_cons, lk_nil, Nat.reduceBEq, Nat.reduceAdd, Nat.reduceSub, cond_true, cond_false]
      rintro ⟨j, r⟩ ⟨g1, g2⟩ ih2
      dsimp only at g1 g2 ih2 ⊢
      by_cases hjt : j < x.cases.length
      · have hgj := List.getElem?_eq_getElem hjt
        have hkx := hxc x.cases[j] (List.getElem_mem hjt)
        rw [drop_get hjt] at g2
        obtain ⟨k, hk⟩ : ∃ k, x.cases[j] = k := ⟨_, rfl⟩
        rw [hk] at hgj g2 hkx
        rw [csW_cons] at g2
        have hjt' : decide ((j : Int) < (x.cases.length : Int)) = true := decide_eq_true (by omega)
        cases hrm : decide (r ≤ m)
        · rw [if_neg (of_decide_eq_false hrm)] at g2
          refine ARun.go 200 ?_
          simp -implicitDefEqProofs only [awC, awN, Nat.reduceAdd, Nat.reduceSub, Nat.reduceLT, Nat.reduceLeDiff, Nat.reduceEqDiff, Int.reduceToNat, Int.reduceEq, Int.reduceLT, Int.reduceLE, Int.reduceNeg, Int.reduceAdd, Int.reduceSub, Nat.reduceBEq, awT, c34, tys, List.getElem?_map, hg, hjt', hrm, stD_eq, hw]
          refine ih (i + 1, r) ⟨hlt, g2⟩ (by dsimp only; omega) _ _ ?_ rfl
          refine Agree.env _ ?_
          simp only [agree_cons, agree_nil, eq_self, and_self, true_and, and_true, Int.natCast_add, Int.natCast_one, Int.natCast_zero, envS_get, envS_eval, lk_cons, lk_nil, Nat.reduceBEq, Nat.reduceAdd, Nat.reduceSub, cond_true, cond_false]
        · rw [if_pos (of_decide_eq_true hrm)] at g2
          refine ARun.go 200 ?_
          simp -implicitDefEqProofs only [awC, awN, Nat.reduceAdd, Nat.reduceSub, Nat.reduceLT, Nat.reduceLeDiff, Nat.reduceEqDiff, Int.reduceToNat, Int.reduceEq, Int.reduceLT, Int.reduceLE, Int.reduceNeg, Int.reduceAdd, Int.reduceSub, Nat.reduceBEq, awT, c34, tys, List.getElem?_map, hg, hjt', hrm, stD_eq, hgj, caD_eq]
          refine callS_fn (hkx _ _) ?_
          rintro _ _ ⟨rfl, rfl⟩
          refine ARun.small fun hsm2 => ?_
          have hcl : x.cases.length ≤ 9223372036854775807 := by
            have := (smL_iff _).1 hsm2 86 (by simp [envS, setV])
            simpa [envS, setV, lk, sm] using this
          clear hsm2
          have hwj := wrap_in ((j : Int) + 1) (by omega)
          refine ARun.go 200 ?_
          simp -implicitDefEqProofs only [awC, awN, Nat.reduceAdd, Nat.reduceSub, Nat.reduceLT, Nat.reduceLeDiff, Nat.reduceEqDiff, Int.reduceToNat, Int.reduceEq, Int.reduceLT, Int.reduceLE, Int.reduceNeg, Int.reduceAdd, Int.reduceSub, Nat.reduceBEq, awT, c34, tys, hwj]
          refine ih2 (j + 1, w64 (w64 (r + 1) + spW k.body 0 (w64 (m - r)))) ⟨hjt, g2⟩ (by dsimp only; omega) _ _ ?_ rfl
          refine Agree.env _ ?_
          simp only [agree_cons, agree_nil, eq_self, and_self, true_and, and_true, Int.natCast_add, Int.natCast_one, Int.natCast_zero, envS_get, envS_eval, lk_cons, lk_nil, Nat.reduceBEq, Nat.reduceAdd, Nat.reduceSub, cond_true, cond_false, w64]
      · have hjt' : decide ((j : Int) < (x.cases.length : Int)) = false := decide_eq_false (by omega)
        have hnil : x.cases.drop j = [] := List.drop_eq_nil_of_le (by omega)
        rw [hnil, csW] at g2
        refine ARun.go 200 ?_
        simp -implicitDefEqProofs only [awC, awN, Nat.reduceAdd, Nat.reduceSub, Nat.reduceLT, Nat.reduceLeDiff, Nat.reduceEqDiff, Int.reduceToNat, Int.reduceEq, Int.reduceLT, Int.reduceLE, Int.reduceNeg, Int.reduceAdd, Int.reduceSub, Nat.reduceBEq, awT, c34, tys, List.getElem?_map, hg, hjt', stD_eq, hw]
        refine ih (i + 1, r) ⟨hlt, g2⟩ (by dsimp only; omega) _ _ ?_ rfl
        refine Agree.env _ ?_
        simp only [agree_cons, agree_nil, eq_self, and_self, true_and, and_true, Int.natCast_add, Int.natCast_one, Int.natCast_zero, envS_get, envS_eval, lk_cons, lk_nil, Nat.reduceBEq, Nat.reduceAdd, Nat.reduceSub, cond_true, cond_false]
  · have hlt' : decide ((i : Int) < (l.length : Int)) = false := decide_eq_false (by omega)
    rw [List.drop_eq_nil_of_le (by omega), spW] at h2
    refine ARun.go 200 ?_
    simp -implicitDefEqProofs only [awC, awN, Nat.reduceAdd, Nat.reduceSub, Nat.reduceLT, Nat.reduceLeDiff, Nat.reduceEqDiff, Int.reduceToNat, Int.reduceEq, Int.reduceLT, Int.reduceLE, Int.reduceNeg, Int.reduceAdd, Int.reduceSub, Nat.reduceBEq, awT, c34, tys, hlt']
    refine ARun.ret Tryd.func34 rfl (Left.empty ?_)
    rw [h2]
    exact ⟨rfl, rfl⟩
mutual
theorem pst_one : ∀ s : StT, PSt s.body ∧ PSt s.els ∧ ∀ k ∈ s.cases, PSt k.body
  | .mk _ _ _ _ _ b e cs => ⟨pstmts_step b (pst_all b), pstmts_step e (pst_all e), pst_cas cs⟩
theorem pst_all : ∀ l : List StT, ∀ x ∈ l, PSt x.body ∧ PSt x.els ∧ ∀ k ∈ x.cases, PSt k.body
  | [], _, h => absurd h List.not_mem_nil
  | y :: l, x, h => by
    rcases List.mem_cons.1 h with e | e
    · rw [e]; exact pst_one y
    · exact pst_all l x e
theorem pst_cas : ∀ l : List CaT, ∀ k ∈ l, PSt k.body
  | [], _, h => absurd h List.not_mem_nil
  | .mk i b :: l, x, h => by
    rcases List.mem_cons.1 h with e | e
    · rw [e]; exact pstmts_step b (pst_all b)
    · exact pst_cas l x e
end
theorem pstmts_ab (l : List StT) : PSt l := pstmts_step l (pst_all l)

def rpW : List TyT → Int → Int → Int
  | [], n, _ => n
  | t :: l, n, m => if n ≤ m then rpW l (w64 (n + tpW t (w64 (m - n)))) m else n
def supW : List SuT → Int → Int → Int
  | [], n, _ => n
  | s :: l, n, m => if n ≤ m then supW l (w64 (n + ppW s.fields 0 (w64 (m - n)))) m else n
def f1W (f : FuT) (n m : Int) : Int := w64 (rpW f.results (w64 (n + ppW f.params 0 (w64 (m - n)))) m + spW f.body 0 (w64 (m - rpW f.results (w64 (n + ppW f.params 0 (w64 (m - n)))) m)))
def fupW : List FuT → Int → Int → Int
  | [], n, _ => n
  | f :: l, n, m => if n ≤ m then fupW l (f1W f n m) m else n
/-- The document's count of a program's parts, as far as m. -/
def prW (p : PrT) (m : Int) : Int :=
  if m < fupW p.funcs (supW p.structs (w64 ((p.structs.length : Int) + p.funcs.length)) m) m then w64 (m + 1) else fupW p.funcs (supW p.structs (w64 ((p.structs.length : Int) + p.funcs.length)) m) m
set_option maxHeartbeats 4000000 in
theorem refParts_ab (pr : PrT) (m : Int) (S : Mem) : AFn Tryd.prog TabI 13 [prV pr, .d (.int .i64 m)] S (Same (.d (.int .i64 (prW pr m))) S) := by
  refine AFn.same (v := .d (.int .i64 (prW pr m))) ?_ rfl rfl S
  generalize hres : prW pr m = res
  obtain ⟨n0, hn0⟩ : ∃ n, w64 ((pr.structs.length : Int) + pr.funcs.length) = n := ⟨_, rfl⟩
  obtain ⟨n1, hn1⟩ : ∃ n, supW pr.structs n0 m = n := ⟨_, rfl⟩
  obtain ⟨n2, hn2⟩ : ∃ n, fupW pr.funcs n1 m = n := ⟨_, rfl⟩
  have hpr : (if m < n2 then w64 (m + 1) else n2) = res := by rw [← hres, ← hn2, ← hn1, ← hn0]; rfl
  simp only [w64] at hn0 hpr
  unfold prV
  refine AFn.bodyE (body := k13_0) 113 Tryd.func13 (by kernel_rfl) (by kernel_rfl) (by kernel_rfl) (Nat.le_of_ble_eq_true rfl) fun hsm => ?_
  simp only [smL, sm, exV, stV, tyV, caV, paV, suV, fuV, prV, Bool.and_eq_true, decide_eq_true_eq, and_true, true_and, List.length_map, ssD_length] at hsm
  refine ARun.go 30 ?_
  simp -implicitDefEqProofs only [awC, awN, Nat.reduceAdd, Nat.reduceSub, Nat.reduceLT, Nat.reduceLeDiff, Nat.reduceEqDiff, Int.reduceToNat, Int.reduceEq, Int.reduceLT, Int.reduceLE, Int.reduceNeg, Int.reduceAdd, Int.reduceSub, Nat.reduceBEq, awT, c13, tys, hn0]
  have hf : Fits ⟨[[.d (.sl (pr.structs.map suD)), .d (.sl (pr.funcs.map fuD))]], []⟩ := fun vs hvs => by
    simp only [List.mem_cons, List.not_mem_nil, or_false] at hvs
    subst hvs
    rfl
  have hrest : ∀ env' : List V, EnvW (envS 113 [(1, .d (.int .i64 m)), (2, .ptr 0 0), (5, .d (.int .i64 n1)), (7, .d (.int .i64 0))]) env' →
      ARun Tryd.prog TabI (0, 0) 13 [.code (.loop k13_24), .inBlock 2, .code k13_51] env' ⟨[[.d (.sl (pr.structs.map suD)), .d (.sl (pr.funcs.map fuD))]], []⟩ (Ab.Left ⟨[], []⟩ (Same (.d (.int .i64 res)) ⟨[], []⟩)) := by
    intro env' henv
    refine ARun.weak henv ?_
    refine ARun.loopB (fun a : Nat × Int => (envS 113 [(1, .d (.int .i64 m)), (2, .ptr 0 0), (5, .d (.int .i64 a.2)), (7, .d (.int .i64 a.1))], ⟨[[.d (.sl (pr.structs.map suD)), .d (.sl (pr.funcs.map fuD))]], []⟩)) (fun a => a.1 ≤ pr.funcs.length ∧ fupW (pr.funcs.drop a.1) a.2 m = n2) (fun a => pr.funcs.length - a.1) (0, n1) ⟨by omega, hn2⟩ ?_ rfl ?_
    · skip
      refine Agree.env _ ?_
      simp only [agree_cons, agree_nil, eq_self, and_self, true_and, and_true, Int.natCast_add, Int.natCast_one, Int.natCast_zero, envS_get, envS_eval, lk_cons, lk_nil, Nat.reduceBEq, Nat.reduceAdd, Nat.reduceSub, cond_true, cond_false]
    rintro ⟨i, q⟩ ⟨h1, h2⟩ ih
    dsimp only at h1 h2 ih ⊢
    by_cases hlt : i < pr.funcs.length
    case' pos =>
      have hlt' : decide ((i : Int) < (pr.funcs.length : Int)) = true := decide_eq_true (by omega)
      by_cases hle : q ≤ m
      case' pos =>
        have hle' : decide (q ≤ m) = true := decide_eq_true hle
        have hw := wrap_in ((i : Int) + 1) (by omega)
        have hg := List.getElem?_eq_getElem hlt
        rw [drop_get hlt, fupW, if_pos hle] at h2
        obtain ⟨x, hx⟩ : ∃ x, pr.funcs[i] = x := ⟨_, rfl⟩
        rw [hx] at hg h2
        obtain ⟨p1, hp1⟩ : ∃ n, w64 (q + ppW x.params 0 (w64 (m - q))) = n := ⟨_, rfl⟩
        obtain ⟨p2, hp2⟩ : ∃ n, rpW x.results p1 m = n := ⟨_, rfl⟩
        obtain ⟨p3, hp3⟩ : ∃ n, w64 (p2 + spW x.body 0 (w64 (m - p2))) = n := ⟨_, rfl⟩
        have hf1 : f1W x q m = p3 := by unfold f1W; rw [hp1, hp2, hp3]
        rw [hf1] at h2
        simp only [w64] at hp1 hp3
        refine ARun.go 200 ?_
        simp -implicitDefEqProofs only [awC, awN, Nat.reduceAdd, Nat.reduceSub, Nat.reduceLT, Nat.reduceLeDiff, Nat.reduceEqDiff, Int.reduceToNat, Int.reduceEq, Int.reduceLT, Int.reduceLE, Int.reduceNeg, Int.reduceAdd, Int.reduceSub, Nat.reduceBEq, awT, c13, tys, List.getElem?_map, hg, hlt', hle', fuD_eq]
        refine callS_fn (pparams_ab x.params _ _) ?_
        rintro _ _ ⟨rfl, rfl⟩
        refine ARun.go 200 ?_
        simp -implicitDefEqProofs only [awC, awN, Nat.reduceAdd, Nat.reduceSub, Nat.reduceLT, Nat.reduceLeDiff, Nat.reduceEqDiff, Int.reduceToNat, Int.reduceEq, Int.reduceLT, Int.reduceLE, Int.reduceNeg, Int.reduceAdd, Int.reduceSub, Nat.reduceBEq, awT, c13, tys, hp1]
        refine ARun.loopB (fun a : Nat × Int => (envS 113 [(1, .d (.int .i64 m)), (2, .ptr 0 0), (5, .d (.int .i64 a.2)), (7, .d (.int .i64 i)), (8, .d (.int .i64 a.1))], ⟨[[.d (.sl (pr.structs.map suD)), .d (.sl (pr.funcs.map fuD))]], []⟩)) (fun a => a.1 ≤ x.results.length ∧ rpW (x.results.drop a.1) a.2 m = p2) (fun a => x.results.length - a.1) (0, p1) ⟨by omega, hp2⟩ ?_ rfl ?_
        · skip
          refine Agree.env _ ?_
          simp only [agree_cons, agree_nil, eq_self, and_self, true_and, and_true, Int.natCast_add, Int.natCast_one, Int.natCast_zero, envS_get, envS_eval, lk_cons, lk_nil, Nat.reduceBEq, Nat.reduceAdd, Nat.reduceSub, cond_true, cond_false]
        rintro ⟨j, r⟩ ⟨g1, g2⟩ ih2
        dsimp only at g1 g2 ih2 ⊢
        by_cases hjt : j < x.results.length
        case' pos =>
          have hjt' : decide ((j : Int) < (x.results.length : Int)) = true := decide_eq_true (by omega)
          by_cases hrm : r ≤ m
          case' pos =>
            have hrm' : decide (r ≤ m) = true := decide_eq_true hrm
            have hgj := List.getElem?_eq_getElem hjt
            rw [drop_get hjt, rpW, if_pos hrm] at g2
            obtain ⟨k, hk⟩ : ∃ k, x.results[j] = k := ⟨_, rfl⟩
            rw [hk] at hgj g2
            have hpx := ptyp_ab k
            unfold PTy tyV at hpx
            refine ARun.go 200 ?_
            simp -implicitDefEqProofs only [awC, awN, Nat.reduceAdd, Nat.reduceSub, Nat.reduceLT, Nat.reduceLeDiff, Nat.reduceEqDiff, Int.reduceToNat, Int.reduceEq, Int.reduceLT, Int.reduceLE, Int.reduceNeg, Int.reduceAdd, Int.reduceSub, Nat.reduceBEq, awT, c13, tys, List.getElem?_map, hg, hgj, hjt', hrm', fuD_eq, tyD_eq]
            refine callS_fn (hpx _ _) ?_
            rintro _ _ ⟨rfl, rfl⟩
            refine ARun.small fun hsm2 => ?_
            have hcl : x.results.length ≤ 9223372036854775807 := by
              have := (smL_iff _).1 hsm2 70 (by simp [envS, setV])
              simpa [envS, setV, lk, sm] using this
            clear hsm2
            have hwj := wrap_in ((j : Int) + 1) (by omega)
            refine ARun.go 200 ?_
            simp -implicitDefEqProofs only [awC, awN, Nat.reduceAdd, Nat.reduceSub, Nat.reduceLT, Nat.reduceLeDiff, Nat.reduceEqDiff, Int.reduceToNat, Int.reduceEq, Int.reduceLT, Int.reduceLE, Int.reduceNeg, Int.reduceAdd, Int.reduceSub, Nat.reduceBEq, awT, c13, tys, hwj]
            refine ih2 (j + 1, w64 (r + tpW k (w64 (m - r)))) ⟨hjt, g2⟩ (by dsimp only; omega) _ _ [] _ rfl ⟨Nat.zero_le _, Nat.zero_le _⟩ hf ?_
            refine AgreeF.env _ ?_
            simp only [agreeF_cons, agreeF_nil, fit, fitL, eq_self, and_self, true_and, and_true, Bool.and_true, Bool.true_and, Bool.and_self, decide_true, List.length_set, Int.natCast_add, Int.natCast_one, Int.natCast_zero, envS_get, envS_eval, lk_cons, lk_nil, Nat.reduceBEq, Nat.reduceAdd, Nat.reduceSub, cond_true, cond_false, w64]
            exact rfl
          case' neg =>
            have hrm' : decide (r ≤ m) = false := decide_eq_false hrm
            rw [drop_get hjt, rpW, if_neg hrm] at g2
            refine ARun.go 200 ?_
            simp -implicitDefEqProofs only [awC, awN, Nat.reduceAdd, Nat.reduceSub, Nat.reduceLT, Nat.reduceLeDiff, Nat.reduceEqDiff, Int.reduceToNat, Int.reduceEq, Int.reduceLT, Int.reduceLE, Int.reduceNeg, Int.reduceAdd, Int.reduceSub, Nat.reduceBEq, awT, c13, tys, List.getElem?_map, hg, hjt', hrm', fuD_eq]
        case' neg =>
          have hjt' : decide ((j : Int) < (x.results.length : Int)) = false := decide_eq_false (by omega)
          have hnil : x.results.drop j = [] := List.drop_eq_nil_of_le (by omega)
          rw [hnil, rpW] at g2
          refine ARun.go 200 ?_
          simp -implicitDefEqProofs only [awC, awN, Nat.reduceAdd, Nat.reduceSub, Nat.reduceLT, Nat.reduceLeDiff, Nat.reduceEqDiff, Int.reduceToNat, Int.reduceEq, Int.reduceLT, Int.reduceLE, Int.reduceNeg, Int.reduceAdd, Int.reduceSub, Nat.reduceBEq, awT, c13, tys, List.getElem?_map, hg, hjt', fuD_eq]
        iterate 2
          subst g2
          refine callS_fn (pstmts_ab x.body _ _) ?_
          rintro _ _ ⟨rfl, rfl⟩
          refine ARun.go 200 ?_
          simp -implicitDefEqProofs only [awC, awN, Nat.reduceAdd, Nat.reduceSub, Nat.reduceLT, Nat.reduceLeDiff, Nat.reduceEqDiff, Int.reduceToNat, Int.reduceEq, Int.reduceLT, Int.reduceLE, Int.reduceNeg, Int.reduceAdd, Int.reduceSub, Nat.reduceBEq, awT, c13, tys, hp3, hw]
          refine ih (i + 1, p3) ⟨hlt, h2⟩ (by dsimp only; omega) _ _ [] _ rfl ⟨Nat.zero_le _, Nat.zero_le _⟩ hf ?_
          refine AgreeF.env _ ?_
          simp only [agreeF_cons, agreeF_nil, fit, fitL, eq_self, and_self, true_and, and_true, Bool.and_true, Bool.true_and, Bool.and_self, decide_true, List.length_set, Int.natCast_add, Int.natCast_one, Int.natCast_zero, envS_get, envS_eval, lk_cons, lk_nil, Nat.reduceBEq, Nat.reduceAdd, Nat.reduceSub, cond_true, cond_false]
          exact rfl
      case' neg =>
        have hle' : decide (q ≤ m) = false := decide_eq_false hle
        rw [drop_get hlt, fupW, if_neg hle] at h2
        refine ARun.go 40 ?_
        simp -implicitDefEqProofs only [awC, awN, Nat.reduceAdd, Nat.reduceSub, Nat.reduceLT, Nat.reduceLeDiff, Nat.reduceEqDiff, Int.reduceToNat, Int.reduceEq, Int.reduceLT, Int.reduceLE, Int.reduceNeg, Int.reduceAdd, Int.reduceSub, Nat.reduceBEq, awT, c13, tys, hlt', hle']
    case' neg =>
      have hlt' : decide ((i : Int) < (pr.funcs.length : Int)) = false := decide_eq_false (by omega)
      have hnil : pr.funcs.drop i = [] := List.drop_eq_nil_of_le (by omega)
      rw [hnil, fupW] at h2
      refine ARun.go 40 ?_
      simp -implicitDefEqProofs only [awC, awN, Nat.reduceAdd, Nat.reduceSub, Nat.reduceLT, Nat.reduceLeDiff, Nat.reduceEqDiff, Int.reduceToNat, Int.reduceEq, Int.reduceLT, Int.reduceLE, Int.reduceNeg, Int.reduceAdd, Int.reduceSub, Nat.reduceBEq, awT, c13, tys, hlt']
    all_goals
      subst h2
      by_cases hm : m < q
      · have hm' : decide (m < q) = true := decide_eq_true hm
        rw [if_pos hm] at hpr
        simp -implicitDefEqProofs only [awC, awN, Nat.reduceAdd, Nat.reduceSub, Nat.reduceLT, Nat.reduceLeDiff, Nat.reduceEqDiff, Int.reduceToNat, Int.reduceEq, Int.reduceLT, Int.reduceLE, Int.reduceNeg, Int.reduceAdd, Int.reduceSub, Nat.reduceBEq, awT, c13, tys, hm']
        refine ARun.ret Tryd.func13 rfl (Left.empty ?_)
        rw [← hpr]
        exact ⟨rfl, rfl⟩
      · have hm' : decide (m < q) = false := decide_eq_false hm
        rw [if_neg hm] at hpr
        simp -implicitDefEqProofs only [awC, awN, Nat.reduceAdd, Nat.reduceSub, Nat.reduceLT, Nat.reduceLeDiff, Nat.reduceEqDiff, Int.reduceToNat, Int.reduceEq, Int.reduceLT, Int.reduceLE, Int.reduceNeg, Int.reduceAdd, Int.reduceSub, Nat.reduceBEq, awT, c13, tys, hm']
        refine ARun.ret Tryd.func13 rfl (Left.empty ?_)
        rw [← hpr]
        exact ⟨rfl, rfl⟩
  refine ARun.loopB (fun a : Nat × Int => (envS 113 [(1, .d (.int .i64 m)), (2, .ptr 0 0), (5, .d (.int .i64 a.2)), (6, .d (.int .i64 a.1))], ⟨[[.d (.sl (pr.structs.map suD)), .d (.sl (pr.funcs.map fuD))]], []⟩)) (fun a => a.1 ≤ pr.structs.length ∧ supW (pr.structs.drop a.1) a.2 m = n1) (fun a => pr.structs.length - a.1) (0, n0) ⟨by omega, hn1⟩ ?_ rfl ?_
  · skip
    refine Agree.env _ ?_
    simp only [agree_cons, agree_nil, eq_self, and_self, true_and, and_true, Int.natCast_add, Int.natCast_one, Int.natCast_zero, envS_get, envS_eval, lk_cons, lk_nil, Nat.reduceBEq, Nat.reduceAdd, Nat.reduceSub, cond_true, cond_false]
  rintro ⟨i, q⟩ ⟨h1, h2⟩ ih
  dsimp only at h1 h2 ih ⊢
  by_cases hlt : i < pr.structs.length
  case' pos =>
    have hlt' : decide ((i : Int) < (pr.structs.length : Int)) = true := decide_eq_true (by omega)
    by_cases hle : q ≤ m
    case' pos =>
      have hle' : decide (q ≤ m) = true := decide_eq_true hle
      have hw := wrap_in ((i : Int) + 1) (by omega)
      have hg := List.getElem?_eq_getElem hlt
      rw [drop_get hlt, supW, if_pos hle] at h2
      obtain ⟨x, hx⟩ : ∃ x, pr.structs[i] = x := ⟨_, rfl⟩
      rw [hx] at hg h2
      refine ARun.go 200 ?_
      simp -implicitDefEqProofs only [awC, awN, Nat.reduceAdd, Nat.reduceSub, Nat.reduceLT, Nat.reduceLeDiff, Nat.reduceEqDiff, Int.reduceToNat, Int.reduceEq, Int.reduceLT, Int.reduceLE, Int.reduceNeg, Int.reduceAdd, Int.reduceSub, Nat.reduceBEq, awT, c13, tys, List.getElem?_map, hg, hlt', hle', suD_eq]
      refine callS_fn (pparams_ab x.fields _ _) ?_
      rintro _ _ ⟨rfl, rfl⟩
      refine ARun.go 200 ?_
      simp -implicitDefEqProofs only [awC, awN, Nat.reduceAdd, Nat.reduceSub, Nat.reduceLT, Nat.reduceLeDiff, Nat.reduceEqDiff, Int.reduceToNat, Int.reduceEq, Int.reduceLT, Int.reduceLE, Int.reduceNeg, Int.reduceAdd, Int.reduceSub, Nat.reduceBEq, awT, c13, tys, hw]
      refine ih (i + 1, w64 (q + ppW x.fields 0 (w64 (m - q)))) ⟨hlt, h2⟩ (by dsimp only; omega) _ _ [] _ rfl ⟨Nat.zero_le _, Nat.zero_le _⟩ hf ?_
      refine AgreeF.env _ ?_
      simp only [agreeF_cons, agreeF_nil, fit, fitL, eq_self, and_self, true_and, and_true, Bool.and_true, Bool.true_and, Bool.and_self, decide_true, List.length_set, Int.natCast_add, Int.natCast_one, Int.natCast_zero, envS_get, envS_eval, lk_cons, lk_nil, Nat.reduceBEq, Nat.reduceAdd, Nat.reduceSub, cond_true, cond_false, w64]
      exact rfl
    case' neg =>
      have hle' : decide (q ≤ m) = false := decide_eq_false hle
      rw [drop_get hlt, supW, if_neg hle] at h2
      subst h2
      refine ARun.go 200 ?_
      simp -implicitDefEqProofs only [awC, awN, Nat.reduceAdd, Nat.reduceSub, Nat.reduceLT, Nat.reduceLeDiff, Nat.reduceEqDiff, Int.reduceToNat, Int.reduceEq, Int.reduceLT, Int.reduceLE, Int.reduceNeg, Int.reduceAdd, Int.reduceSub, Nat.reduceBEq, awT, c13, tys, hlt', hle']
      refine hrest _ ?_
      refine Agree.env _ ?_
      simp only [agree_cons, agree_nil, eq_self, and_self, true_and, and_true, Int.natCast_add, Int.natCast_one, Int.natCast_zero, envS_get, envS_eval, lk_cons, lk_nil, Nat.reduceBEq, Nat.reduceAdd, Nat.reduceSub, cond_true, cond_false]
  case' neg =>
    have hlt' : decide ((i : Int) < (pr.structs.length : Int)) = false := decide_eq_false (by omega)
    rw [List.drop_eq_nil_of_le (by omega), supW] at h2
    subst h2
    refine ARun.go 200 ?_
    simp -implicitDefEqProofs only [awC, awN, Nat.reduceAdd, Nat.reduceSub, Nat.reduceLT, Nat.reduceLeDiff, Nat.reduceEqDiff, Int.reduceToNat, Int.reduceEq, Int.reduceLT, Int.reduceLE, Int.reduceNeg, Int.reduceAdd, Int.reduceSub, Nat.reduceBEq, awT, c13, tys, hlt']
    refine hrest _ ?_
    refine Agree.env _ ?_
    simp only [agree_cons, agree_nil, eq_self, and_self, true_and, and_true, Int.natCast_add, Int.natCast_one, Int.natCast_zero, envS_get, envS_eval, lk_cons, lk_nil, Nat.reduceBEq, Nat.reduceAdd, Nat.reduceSub, cond_true, cond_false]
theorem great_ab (pr : PrT) (S : Mem) : AFn Tryd.prog TabI 5 [prV pr] S (Same (.d (.bool (decide (2500 < prW pr 2500)))) S) := by
  refine AFn.same (v := .d (.bool (decide (2500 < prW pr 2500)))) ?_ rfl rfl S
  have h := refParts_ab pr 2500
  unfold prV at h ⊢
  refine AFn.bodyE (body := k5_0) 6 Tryd.func5 (by kernel_rfl) (by kernel_rfl) (by kernel_rfl) (Nat.le_of_ble_eq_true rfl) fun hsm => ?_
  simp only [smL, sm, exV, stV, tyV, caV, paV, suV, fuV, prV, Bool.and_eq_true, decide_eq_true_eq, and_true, true_and, List.length_map, ssD_length] at hsm
  refine ARun.go 200 ?_
  simp -implicitDefEqProofs only [awC, awN, Nat.reduceAdd, Nat.reduceSub, Nat.reduceLT, Nat.reduceLeDiff, Nat.reduceEqDiff, Int.reduceToNat, Int.reduceEq, Int.reduceLT, Int.reduceLE, Int.reduceNeg, Int.reduceAdd, Int.reduceSub, Nat.reduceBEq, awT, c5, tys]
  refine callS_fn (h _) ?_
  rintro _ _ ⟨rfl, rfl⟩
  refine ARun.go 200 ?_
  simp -implicitDefEqProofs only [awC, awN, Nat.reduceAdd, Nat.reduceSub, Nat.reduceLT, Nat.reduceLeDiff, Nat.reduceEqDiff, Int.reduceToNat, Int.reduceEq, Int.reduceLT, Int.reduceLE, Int.reduceNeg, Int.reduceAdd, Int.reduceSub, Nat.reduceBEq, awT, c5, tys]
  refine ARun.ret Tryd.func5 rfl (Left.empty ?_)
  exact ⟨rfl, rfl⟩
end Go.Proofs.YtombghldgdcjcaaDoor

/- GoastLess: the walk. -/
namespace Go.Proofs.YtombghldgdcjcaaDoor
open Go.RowKit Go.Av Go.Ab
set_option linter.unusedSimpArgs false
set_option maxRecDepth 100000
noncomputable def k3_0 : Code := bodyOf Tryd.f3
noncomputable def k3_1 : Code := lft k3_0
noncomputable def o3_1 : Array Oper := opsOf k3_1
noncomputable def k3_2 : Code := rgt k3_0
noncomputable def k3_3 : Code := lft k3_2
noncomputable def k3_4 : Code := lft k3_3
noncomputable def o3_4 : Array Oper := opsOf k3_4
noncomputable def k3_5 : Code := rgt k3_3
noncomputable def k3_6 : Code := lft k3_5
noncomputable def k3_7 : Code := lft k3_6
noncomputable def o3_7 : Array Oper := opsOf k3_7
noncomputable def k3_8 : Code := rgt k3_6
noncomputable def k3_9 : Code := rgt k3_5
noncomputable def k3_10 : Code := rgt k3_2
noncomputable def k3_11 : Code := lft k3_10
noncomputable def k3_12 : Code := lft k3_11
noncomputable def o3_12 : Array Oper := opsOf k3_12
noncomputable def p3_12_3 : Oper := opAt o3_12 3
noncomputable def p3_12_4 : Oper := opAt o3_12 4
noncomputable def p3_12_5 : Oper := opAt o3_12 5
noncomputable def k3_13 : Code := rgt k3_11
noncomputable def k3_14 : Code := lft k3_13
noncomputable def k3_15 : Code := lft k3_14
noncomputable def o3_15 : Array Oper := opsOf k3_15
noncomputable def k3_16 : Code := rgt k3_14
noncomputable def k3_17 : Code := rgt k3_13
noncomputable def k3_18 : Code := rgt k3_10
noncomputable def k3_19 : Code := lft k3_18
noncomputable def o3_19 : Array Oper := opsOf k3_19
noncomputable def k3_20 : Code := rgt k3_18
noncomputable def k3_21 : Code := lft k3_20
noncomputable def k3_22 : Code := lft k3_21
noncomputable def o3_22 : Array Oper := opsOf k3_22
noncomputable def k3_23 : Code := rgt k3_21
noncomputable def k3_24 : Code := lft k3_23
noncomputable def o3_24 : Array Oper := opsOf k3_24
noncomputable def k3_25 : Code := rgt k3_23
noncomputable def k3_26 : Code := lft k3_25
noncomputable def k3_27 : Code := lft k3_26
noncomputable def o3_27 : Array Oper := opsOf k3_27
noncomputable def k3_28 : Code := rgt k3_26
noncomputable def k3_29 : Code := lft k3_28
noncomputable def o3_29 : Array Oper := opsOf k3_29
noncomputable def p3_29_0 : Oper := opAt o3_29 0
noncomputable def p3_29_1 : Oper := opAt o3_29 1
noncomputable def p3_29_2 : Oper := opAt o3_29 2
noncomputable def p3_29_3 : Oper := opAt o3_29 3
noncomputable def p3_29_4 : Oper := opAt o3_29 4
noncomputable def p3_29_5 : Oper := opAt o3_29 5
noncomputable def p3_29_6 : Oper := opAt o3_29 6
noncomputable def p3_29_7 : Oper := opAt o3_29 7
noncomputable def p3_29_8 : Oper := opAt o3_29 8
noncomputable def p3_29_9 : Oper := opAt o3_29 9
noncomputable def p3_29_10 : Oper := opAt o3_29 10
noncomputable def p3_29_11 : Oper := opAt o3_29 11
noncomputable def p3_29_12 : Oper := opAt o3_29 12
noncomputable def p3_29_13 : Oper := opAt o3_29 13
noncomputable def k3_30 : Code := rgt k3_28
noncomputable def k3_31 : Code := lft k3_30
noncomputable def o3_31 : Array Oper := opsOf k3_31
noncomputable def p3_31_0 : Oper := opAt o3_31 0
noncomputable def p3_31_1 : Oper := opAt o3_31 1
noncomputable def p3_31_2 : Oper := opAt o3_31 2
noncomputable def p3_31_3 : Oper := opAt o3_31 3
noncomputable def p3_31_4 : Oper := opAt o3_31 4
noncomputable def p3_31_5 : Oper := opAt o3_31 5
noncomputable def p3_31_6 : Oper := opAt o3_31 6
noncomputable def p3_31_7 : Oper := opAt o3_31 7
noncomputable def p3_31_8 : Oper := opAt o3_31 8
noncomputable def p3_31_9 : Oper := opAt o3_31 9
noncomputable def p3_31_10 : Oper := opAt o3_31 10
noncomputable def p3_31_11 : Oper := opAt o3_31 11
noncomputable def p3_31_12 : Oper := opAt o3_31 12
noncomputable def p3_31_13 : Oper := opAt o3_31 13
noncomputable def p3_31_14 : Oper := opAt o3_31 14
noncomputable def k3_32 : Code := rgt k3_30
noncomputable def k3_33 : Code := lft k3_32
noncomputable def k3_34 : Code := lft k3_33
noncomputable def o3_34 : Array Oper := opsOf k3_34
noncomputable def k3_35 : Code := rgt k3_33
noncomputable def k3_36 : Code := rgt k3_32
noncomputable def k3_37 : Code := rgt k3_25
noncomputable def k3_38 : Code := rgt k3_20
noncomputable def k3_39 : Code := lft k3_38
noncomputable def k3_40 : Code := lft k3_39
noncomputable def o3_40 : Array Oper := opsOf k3_40
noncomputable def k3_41 : Code := rgt k3_39
noncomputable def k3_42 : Code := lft k3_41
noncomputable def o3_42 : Array Oper := opsOf k3_42
noncomputable def k3_43 : Code := rgt k3_41
noncomputable def k3_44 : Code := lft k3_43
noncomputable def k3_45 : Code := lft k3_44
noncomputable def o3_45 : Array Oper := opsOf k3_45
noncomputable def k3_46 : Code := rgt k3_44
noncomputable def k3_47 : Code := lft k3_46
noncomputable def o3_47 : Array Oper := opsOf k3_47
noncomputable def p3_47_0 : Oper := opAt o3_47 0
noncomputable def p3_47_1 : Oper := opAt o3_47 1
noncomputable def p3_47_2 : Oper := opAt o3_47 2
noncomputable def p3_47_3 : Oper := opAt o3_47 3
noncomputable def p3_47_4 : Oper := opAt o3_47 4
noncomputable def p3_47_5 : Oper := opAt o3_47 5
noncomputable def p3_47_6 : Oper := opAt o3_47 6
noncomputable def p3_47_7 : Oper := opAt o3_47 7
noncomputable def p3_47_8 : Oper := opAt o3_47 8
noncomputable def p3_47_9 : Oper := opAt o3_47 9
noncomputable def p3_47_10 : Oper := opAt o3_47 10
noncomputable def p3_47_11 : Oper := opAt o3_47 11
noncomputable def p3_47_12 : Oper := opAt o3_47 12
noncomputable def p3_47_13 : Oper := opAt o3_47 13
noncomputable def k3_48 : Code := rgt k3_46
noncomputable def k3_49 : Code := lft k3_48
noncomputable def o3_49 : Array Oper := opsOf k3_49
noncomputable def p3_49_0 : Oper := opAt o3_49 0
noncomputable def p3_49_1 : Oper := opAt o3_49 1
noncomputable def p3_49_2 : Oper := opAt o3_49 2
noncomputable def p3_49_3 : Oper := opAt o3_49 3
noncomputable def p3_49_4 : Oper := opAt o3_49 4
noncomputable def p3_49_5 : Oper := opAt o3_49 5
noncomputable def p3_49_6 : Oper := opAt o3_49 6
noncomputable def p3_49_7 : Oper := opAt o3_49 7
noncomputable def p3_49_8 : Oper := opAt o3_49 8
noncomputable def p3_49_9 : Oper := opAt o3_49 9
noncomputable def k3_50 : Code := rgt k3_48
noncomputable def k3_51 : Code := rgt k3_43
noncomputable def k3_52 : Code := rgt k3_38
noncomputable def k3_53 : Code := lft k3_52
noncomputable def o3_53 : Array Oper := opsOf k3_53
noncomputable def k3_54 : Code := rgt k3_52
theorem c3s (I : Inv) (next stop : Cont) (k : List Item) (env : List V) (S : Mem) : (codeS I next stop k3_1 k env S = next (.inRegion o3_1 [0, 1] :: k) env S) ∧
  (codeS I next stop k3_4 k env S = next (.inRegion o3_4 [0, 1] :: k) env S) ∧
  (codeS I next stop k3_7 k env S = next (.inRegion o3_7 [0] :: k) env S) ∧
  (codeS I next stop k3_8 k env S = stop (.code .ret :: k) env S) ∧
  (codeS I next stop k3_6 k env S = next (.code k3_7 :: .code k3_8 :: k) env S) ∧
  (codeS I next stop k3_9 k env S = next k env S) ∧
  (codeS I next stop k3_5 k env S = condV next (evalV I env (.tmp 11)) k3_6 k3_9 k env S) ∧
  (codeS I next stop k3_3 k env S = next (.code k3_4 :: .code k3_5 :: k) env S) ∧
  (codeS I next stop k3_12 k env S = next (.inRegion o3_12 [0, 1, 2, 3, 4, 5, 6] :: k) env S) ∧
  (codeS I next stop k3_15 k env S = next (.inRegion o3_15 [0] :: k) env S) ∧
  (codeS I next stop k3_16 k env S = stop (.code .ret :: k) env S) ∧
  (codeS I next stop k3_14 k env S = next (.code k3_15 :: .code k3_16 :: k) env S) ∧
  (codeS I next stop k3_17 k env S = next k env S) ∧
  (codeS I next stop k3_13 k env S = condV next (evalV I env (.tmp 18)) k3_14 k3_17 k env S) ∧
  (codeS I next stop k3_11 k env S = next (.code k3_12 :: .code k3_13 :: k) env S) ∧
  (codeS I next stop k3_19 k env S = next (.inRegion o3_19 [0, 1, 2] :: k) env S) ∧
  (codeS I next stop k3_22 k env S = next (.inRegion o3_22 [0, 1, 2, 3] :: k) env S) ∧
  (codeS I next stop k3_24 k env S = next (.inRegion o3_24 [0, 1] :: k) env S) ∧
  (codeS I next stop k3_27 k env S = next (.inRegion o3_27 [0, 1, 2, 3, 4, 5, 6] :: k) env S) ∧
  (codeS I next stop k3_29 k env S = stop (.code (.region 9 o3_29 true) :: k) env S) ∧
  (codeS I next stop k3_31 k env S = stop (.code (.region 10 o3_31 true) :: k) env S) ∧
  (codeS I next stop k3_34 k env S = next (.inRegion o3_34 [0] :: k) env S) ∧
  (codeS I next stop k3_35 k env S = stop (.code .ret :: k) env S) ∧
  (codeS I next stop k3_33 k env S = next (.code k3_34 :: .code k3_35 :: k) env S) ∧
  (codeS I next stop k3_36 k env S = next k env S) ∧
  (codeS I next stop k3_32 k env S = condV next (evalV I env (.tmp 58)) k3_33 k3_36 k env S) ∧
  (codeS I next stop k3_30 k env S = next (.code k3_31 :: .code k3_32 :: k) env S) ∧
  (codeS I next stop k3_28 k env S = next (.code k3_29 :: .code k3_30 :: k) env S) ∧
  (codeS I next stop k3_26 k env S = next (.code k3_27 :: .code k3_28 :: k) env S) ∧
  (codeS I next stop k3_37 k env S = next k env S) ∧
  (codeS I next stop k3_25 k env S = condV next (evalV I env (.tmp 24)) k3_26 k3_37 k env S) ∧
  (codeS I next stop k3_23 k env S = next (.code k3_24 :: .code k3_25 :: k) env S) ∧
  (codeS I next stop k3_21 k env S = next (.code k3_22 :: .code k3_23 :: k) env S) ∧
  (codeS I next stop k3_40 k env S = next (.inRegion o3_40 [0, 1, 2, 3] :: k) env S) ∧
  (codeS I next stop k3_42 k env S = next (.inRegion o3_42 [0, 1] :: k) env S) ∧
  (codeS I next stop k3_45 k env S = next (.inRegion o3_45 [0, 1, 2, 3, 4, 5, 6] :: k) env S) ∧
  (codeS I next stop k3_47 k env S = stop (.code (.region 15 o3_47 true) :: k) env S) ∧
  (codeS I next stop k3_49 k env S = stop (.code (.region 16 o3_49 true) :: k) env S) ∧
  (codeS I next stop k3_50 k env S = stop (.code .ret :: k) env S) ∧
  (codeS I next stop k3_48 k env S = next (.code k3_49 :: .code k3_50 :: k) env S) ∧
  (codeS I next stop k3_46 k env S = next (.code k3_47 :: .code k3_48 :: k) env S) ∧
  (codeS I next stop k3_44 k env S = next (.code k3_45 :: .code k3_46 :: k) env S) ∧
  (codeS I next stop k3_51 k env S = next k env S) ∧
  (codeS I next stop k3_43 k env S = condV next (evalV I env (.tmp 63)) k3_44 k3_51 k env S) ∧
  (codeS I next stop k3_41 k env S = next (.code k3_42 :: .code k3_43 :: k) env S) ∧
  (codeS I next stop k3_39 k env S = next (.code k3_40 :: .code k3_41 :: k) env S) ∧
  (codeS I next stop k3_53 k env S = next (.inRegion o3_53 [0] :: k) env S) ∧
  (codeS I next stop k3_54 k env S = stop (.code .ret :: k) env S) ∧
  (codeS I next stop k3_52 k env S = next (.code k3_53 :: .code k3_54 :: k) env S) ∧
  (codeS I next stop k3_38 k env S = next (.code k3_39 :: .code k3_52 :: k) env S) ∧
  (codeS I next stop k3_20 k env S = next (.code k3_21 :: .code k3_38 :: k) env S) ∧
  (codeS I next stop k3_18 k env S = next (.code k3_19 :: .code k3_20 :: k) env S) ∧
  (codeS I next stop k3_10 k env S = next (.code k3_11 :: .code k3_18 :: k) env S) ∧
  (codeS I next stop k3_2 k env S = next (.code k3_3 :: .code k3_10 :: k) env S) ∧
  (codeS I next stop k3_0 k env S = next (.code k3_1 :: .code k3_2 :: k) env S) := by
  repeat' apply And.intro
  all_goals kernel_rfl
theorem c3r (P : Program) (I : Inv) (next stop : Cont) (rest : List Nat) (k : List Item) (env : List V) (S : Mem) : (regS P I next stop o3_1 0 rest k env S = bindS next (op1 P (evalV I env) S (.box 25 (.tmp 0))) (.inRegion o3_1 rest :: k) (some 2) env) ∧
  (regS P I next stop o3_1 1 rest k env S = bindS next (op1 P (evalV I env) S (.assign (.const (.bool false)))) (.inRegion o3_1 rest :: k) (some 4) env) ∧
  (regS P I next stop o3_4 0 rest k env S = callS P I stop (evalV I env (.func 4)) [] (.inRegion o3_4 rest :: k) (some 10) env S) ∧
  (regS P I next stop o3_4 1 rest k env S = bindS next (op1 P (evalV I env) S (.unOp .not 4 (.tmp 10))) (.inRegion o3_4 rest :: k) (some 11) env) ∧
  (regS P I next stop o3_7 0 rest k env S = bindS next (op1 P (evalV I env) S (.assign (.const (.bool false)))) (.inRegion o3_7 rest :: k) (some 4) env) ∧
  (regS P I next stop o3_12 0 rest k env S = bindS next (op1 P (evalV I env) S (.load 25 (.tmp 2))) (.inRegion o3_12 rest :: k) (some 12) env) ∧
  (regS P I next stop o3_12 1 rest k env S = callS P I stop (evalV I env (.func 5)) [evalV I env (.tmp 12)] (.inRegion o3_12 rest :: k) (some 13) env S) ∧
  (regS P I next stop o3_12 2 rest k env S = bindS next (op1 P (evalV I env) S (.move (.tmp 13))) (.inRegion o3_12 rest :: k) (some 14) env) ∧
  (regS P I next stop o3_12 3 rest k env S = guardS P I next stop (env.getD 14 .undef) false o3_12 rest p3_12_3 k env S) ∧
  (doOp P I next stop o3_12 rest p3_12_3 k env S = bindS next (op1 P (evalV I env) S (.load 25 (.tmp 2))) (.inRegion o3_12 rest :: k) (some 15) env) ∧
  (regS P I next stop o3_12 4 rest k env S = guardS P I next stop (env.getD 14 .undef) false o3_12 rest p3_12_4 k env S) ∧
  (doOp P I next stop o3_12 rest p3_12_4 k env S = callS P I stop (evalV I env (.func 6)) [evalV I env (.tmp 15)] (.inRegion o3_12 rest :: k) (some 16) env S) ∧
  (regS P I next stop o3_12 5 rest k env S = guardS P I next stop (env.getD 14 .undef) false o3_12 rest p3_12_5 k env S) ∧
  (doOp P I next stop o3_12 rest p3_12_5 k env S = bindS next (op1 P (evalV I env) S (.unOp .not 4 (.tmp 16))) (.inRegion o3_12 rest :: k) (some 17) env) ∧
  (regS P I next stop o3_12 6 rest k env S = bindS next (op1 P (evalV I env) S (.pick (.tmp 14) (.const (.bool true)) (.tmp 17))) (.inRegion o3_12 rest :: k) (some 18) env) ∧
  (regS P I next stop o3_15 0 rest k env S = bindS next (op1 P (evalV I env) S (.assign (.const (.bool true)))) (.inRegion o3_15 rest :: k) (some 4) env) ∧
  (regS P I next stop o3_19 0 rest k env S = bindS next (op1 P (evalV I env) S (.load 25 (.tmp 2))) (.inRegion o3_19 rest :: k) (some 19) env) ∧
  (regS P I next stop o3_19 1 rest k env S = bindS next (op1 P (evalV I env) S (.alloc 25)) (.inRegion o3_19 rest :: k) (some 5) env) ∧
  (regS P I next stop o3_19 2 rest k env S = bindS next (op1 P (evalV I env) S (.store 25 (.tmp 5) (.tmp 19))) (.inRegion o3_19 rest :: k) none env) ∧
  (regS P I next stop o3_22 0 rest k env S = bindS next (op1 P (evalV I env) S (.fieldAddr 25 (.tmp 2) 1)) (.inRegion o3_22 rest :: k) (some 20) env) ∧
  (regS P I next stop o3_22 1 rest k env S = bindS next (op1 P (evalV I env) S (.load 23 (.tmp 20))) (.inRegion o3_22 rest :: k) (some 21) env) ∧
  (regS P I next stop o3_22 2 rest k env S = bindS next (opCall P (evalV I env) S { callee := .builtin .len, args := #[.tmp 21], argTypes := #[23] }) (.inRegion o3_22 rest :: k) (some 22) env) ∧
  (regS P I next stop o3_22 3 rest k env S = bindS next (op1 P (evalV I env) S (.assign (.tmp 22))) (.inRegion o3_22 rest :: k) (some 6) env) ∧
  (regS P I next stop o3_24 0 rest k env S = bindS next (op1 P (evalV I env) S (.move (.tmp 6))) (.inRegion o3_24 rest :: k) (some 23) env) ∧
  (regS P I next stop o3_24 1 rest k env S = bindS next (op1 P (evalV I env) S (.binOp .gtr 3 (.tmp 23) (.const (.int .i64 0)) 3)) (.inRegion o3_24 rest :: k) (some 24) env) ∧
  (regS P I next stop o3_27 0 rest k env S = bindS next (op1 P (evalV I env) S (.move (.tmp 1))) (.inRegion o3_27 rest :: k) (some 25) env) ∧
  (regS P I next stop o3_27 1 rest k env S = bindS next (op1 P (evalV I env) S (.convert 3 28 (.tmp 25))) (.inRegion o3_27 rest :: k) (some 26) env) ∧
  (regS P I next stop o3_27 2 rest k env S = bindS next (op1 P (evalV I env) S (.move (.tmp 6))) (.inRegion o3_27 rest :: k) (some 27) env) ∧
  (regS P I next stop o3_27 3 rest k env S = bindS next (op1 P (evalV I env) S (.convert 3 28 (.tmp 27))) (.inRegion o3_27 rest :: k) (some 28) env) ∧
  (regS P I next stop o3_27 4 rest k env S = bindS next (op1 P (evalV I env) S (.binOp .rem 28 (.tmp 26) (.tmp 28) 28)) (.inRegion o3_27 rest :: k) (some 29) env) ∧
  (regS P I next stop o3_27 5 rest k env S = bindS next (op1 P (evalV I env) S (.convert 28 3 (.tmp 29))) (.inRegion o3_27 rest :: k) (some 30) env) ∧
  (regS P I next stop o3_27 6 rest k env S = bindS next (op1 P (evalV I env) S (.assign (.tmp 30))) (.inRegion o3_27 rest :: k) (some 7) env) ∧
  (regS P I next stop o3_34 0 rest k env S = bindS next (op1 P (evalV I env) S (.assign (.const (.bool false)))) (.inRegion o3_34 rest :: k) (some 4) env) ∧
  (regS P I next stop o3_40 0 rest k env S = bindS next (op1 P (evalV I env) S (.fieldAddr 25 (.tmp 2) 0)) (.inRegion o3_40 rest :: k) (some 59) env) ∧
  (regS P I next stop o3_40 1 rest k env S = bindS next (op1 P (evalV I env) S (.load 22 (.tmp 59))) (.inRegion o3_40 rest :: k) (some 60) env) ∧
  (regS P I next stop o3_40 2 rest k env S = bindS next (opCall P (evalV I env) S { callee := .builtin .len, args := #[.tmp 60], argTypes := #[22] }) (.inRegion o3_40 rest :: k) (some 61) env) ∧
  (regS P I next stop o3_40 3 rest k env S = bindS next (op1 P (evalV I env) S (.assign (.tmp 61))) (.inRegion o3_40 rest :: k) (some 8) env) ∧
  (regS P I next stop o3_42 0 rest k env S = bindS next (op1 P (evalV I env) S (.move (.tmp 8))) (.inRegion o3_42 rest :: k) (some 62) env) ∧
  (regS P I next stop o3_42 1 rest k env S = bindS next (op1 P (evalV I env) S (.binOp .gtr 3 (.tmp 62) (.const (.int .i64 0)) 3)) (.inRegion o3_42 rest :: k) (some 63) env) ∧
  (regS P I next stop o3_45 0 rest k env S = bindS next (op1 P (evalV I env) S (.move (.tmp 1))) (.inRegion o3_45 rest :: k) (some 64) env) ∧
  (regS P I next stop o3_45 1 rest k env S = bindS next (op1 P (evalV I env) S (.convert 3 28 (.tmp 64))) (.inRegion o3_45 rest :: k) (some 65) env) ∧
  (regS P I next stop o3_45 2 rest k env S = bindS next (op1 P (evalV I env) S (.move (.tmp 8))) (.inRegion o3_45 rest :: k) (some 66) env) ∧
  (regS P I next stop o3_45 3 rest k env S = bindS next (op1 P (evalV I env) S (.convert 3 28 (.tmp 66))) (.inRegion o3_45 rest :: k) (some 67) env) ∧
  (regS P I next stop o3_45 4 rest k env S = bindS next (op1 P (evalV I env) S (.binOp .rem 28 (.tmp 65) (.tmp 67) 28)) (.inRegion o3_45 rest :: k) (some 68) env) ∧
  (regS P I next stop o3_45 5 rest k env S = bindS next (op1 P (evalV I env) S (.convert 28 3 (.tmp 68))) (.inRegion o3_45 rest :: k) (some 69) env) ∧
  (regS P I next stop o3_45 6 rest k env S = bindS next (op1 P (evalV I env) S (.assign (.tmp 69))) (.inRegion o3_45 rest :: k) (some 9) env) ∧
  (regS P I next stop o3_53 0 rest k env S = bindS next (op1 P (evalV I env) S (.assign (.const (.bool true)))) (.inRegion o3_53 rest :: k) (some 4) env) := by
  repeat' apply And.intro
  all_goals kernel_rfl
theorem c3q (P : Program) (I : Inv) (nq : LCont) (S : Mem) (l : List Oper) (env : List V) : (stepQ P I o3_29 nq S p3_29_0 l env = bindQ nq S (op1 P (evalV I env) S (.buildSlice 23 0 #[])) l (some 31) env) ∧
  (stepQ P I o3_29 nq S p3_29_1 l env = bindQ nq S (op1 P (evalV I env) S (.fieldAddr 25 (.tmp 2) 1)) l (some 32) env) ∧
  (stepQ P I o3_29 nq S p3_29_2 l env = bindQ nq S (op1 P (evalV I env) S (.load 23 (.tmp 32))) l (some 33) env) ∧
  (stepQ P I o3_29 nq S p3_29_3 l env = bindQ nq S (op1 P (evalV I env) S (.move (.tmp 7))) l (some 34) env) ∧
  (stepQ P I o3_29 nq S p3_29_4 l env = bindQ nq S (op1 P (evalV I env) S (.slice 23 (.tmp 33) none (some (.tmp 34)) none)) l (some 35) env) ∧
  (stepQ P I o3_29 nq S p3_29_5 l env = bindQ nq S (opCall P (evalV I env) S { callee := .builtin .append, args := #[.tmp 31, .tmp 35], argTypes := #[23, 23] }) l (some 36) env) ∧
  (stepQ P I o3_29 nq S p3_29_6 l env = bindQ nq S (op1 P (evalV I env) S (.fieldAddr 25 (.tmp 2) 1)) l (some 37) env) ∧
  (stepQ P I o3_29 nq S p3_29_7 l env = bindQ nq S (op1 P (evalV I env) S (.load 23 (.tmp 37))) l (some 38) env) ∧
  (stepQ P I o3_29 nq S p3_29_8 l env = bindQ nq S (op1 P (evalV I env) S (.move (.tmp 7))) l (some 39) env) ∧
  (stepQ P I o3_29 nq S p3_29_9 l env = bindQ nq S (op1 P (evalV I env) S (.binOp .add 3 (.tmp 39) (.const (.int .i64 1)) 3)) l (some 40) env) ∧
  (stepQ P I o3_29 nq S p3_29_10 l env = bindQ nq S (op1 P (evalV I env) S (.slice 23 (.tmp 38) (some (.tmp 40)) none none)) l (some 41) env) ∧
  (stepQ P I o3_29 nq S p3_29_11 l env = bindQ nq S (opCall P (evalV I env) S { callee := .builtin .append, args := #[.tmp 36, .tmp 41], argTypes := #[23, 23] }) l (some 42) env) ∧
  (stepQ P I o3_29 nq S p3_29_12 l env = bindQ nq S (op1 P (evalV I env) S (.fieldAddr 25 (.tmp 5) 1)) l (some 43) env) ∧
  (stepQ P I o3_29 nq S p3_29_13 l env = bindQ nq S (op1 P (evalV I env) S (.store 23 (.tmp 43) (.tmp 42))) l none env) ∧
  (stepQ P I o3_31 nq S p3_31_0 l env = bindQ nq S (op1 P (evalV I env) S (.load 25 (.tmp 5))) l (some 44) env) ∧
  (stepQ P I o3_31 nq S p3_31_1 l env = callQ P I nq S { callee := .value (.func 6), args := #[.tmp 44], argTypes := #[25] } (evalV I env (.func 6)) [evalV I env (.tmp 44)] l (some 45) env) ∧
  (stepQ P I o3_31 nq S p3_31_2 l env = bindQ nq S (op1 P (evalV I env) S (.unOp .not 4 (.tmp 45))) l (some 46) env) ∧
  (stepQ P I o3_31 nq S p3_31_3 l env = bindQ nq S (op1 P (evalV I env) S (.move (.tmp 46))) l (some 47) env) ∧
  (stepQ P I o3_31 nq S p3_31_4 l env = stepV P I nq S (env.getD 47 .undef) false p3_31_4 l env) ∧
  (opQ P I nq S p3_31_4 l env = bindQ nq S (op1 P (evalV I env) S (.load 25 (.tmp 5))) l (some 48) env) ∧
  (stepQ P I o3_31 nq S p3_31_5 l env = stepV P I nq S (env.getD 47 .undef) false p3_31_5 l env) ∧
  (opQ P I nq S p3_31_5 l env = callQ P I nq S { callee := .value (.func 7), args := #[.tmp 48], argTypes := #[25] } (evalV I env (.func 7)) [evalV I env (.tmp 48)] l (some 49) env) ∧
  (stepQ P I o3_31 nq S p3_31_6 l env = stepV P I nq S (env.getD 47 .undef) false p3_31_6 l env) ∧
  (opQ P I nq S p3_31_6 l env = bindQ nq S (op1 P (evalV I env) S (.load 25 (.tmp 2))) l (some 50) env) ∧
  (stepQ P I o3_31 nq S p3_31_7 l env = stepV P I nq S (env.getD 47 .undef) false p3_31_7 l env) ∧
  (opQ P I nq S p3_31_7 l env = callQ P I nq S { callee := .value (.func 7), args := #[.tmp 50], argTypes := #[25] } (evalV I env (.func 7)) [evalV I env (.tmp 50)] l (some 51) env) ∧
  (stepQ P I o3_31 nq S p3_31_8 l env = stepV P I nq S (env.getD 47 .undef) false p3_31_8 l env) ∧
  (opQ P I nq S p3_31_8 l env = bindQ nq S (op1 P (evalV I env) S (.binOp .geq 3 (.tmp 49) (.tmp 51) 3)) l (some 52) env) ∧
  (stepQ P I o3_31 nq S p3_31_9 l env = bindQ nq S (op1 P (evalV I env) S (.pick (.tmp 47) (.const (.bool true)) (.tmp 52))) l (some 53) env) ∧
  (stepQ P I o3_31 nq S p3_31_10 l env = bindQ nq S (op1 P (evalV I env) S (.move (.tmp 53))) l (some 54) env) ∧
  (stepQ P I o3_31 nq S p3_31_11 l env = stepV P I nq S (env.getD 54 .undef) false p3_31_11 l env) ∧
  (opQ P I nq S p3_31_11 l env = bindQ nq S (op1 P (evalV I env) S (.load 25 (.tmp 2))) l (some 55) env) ∧
  (stepQ P I o3_31 nq S p3_31_12 l env = stepV P I nq S (env.getD 54 .undef) false p3_31_12 l env) ∧
  (opQ P I nq S p3_31_12 l env = bindQ nq S (op1 P (evalV I env) S (.load 25 (.tmp 5))) l (some 56) env) ∧
  (stepQ P I o3_31 nq S p3_31_13 l env = stepV P I nq S (env.getD 54 .undef) false p3_31_13 l env) ∧
  (opQ P I nq S p3_31_13 l env = callQ P I nq S { callee := .value (.func 8), args := #[.tmp 55, .tmp 56], argTypes := #[25, 25] } (evalV I env (.func 8)) [evalV I env (.tmp 55), evalV I env (.tmp 56)] l (some 57) env) ∧
  (stepQ P I o3_31 nq S p3_31_14 l env = bindQ nq S (op1 P (evalV I env) S (.pick (.tmp 54) (.const (.bool true)) (.tmp 57))) l (some 58) env) ∧
  (stepQ P I o3_47 nq S p3_47_0 l env = bindQ nq S (op1 P (evalV I env) S (.buildSlice 22 0 #[])) l (some 70) env) ∧
  (stepQ P I o3_47 nq S p3_47_1 l env = bindQ nq S (op1 P (evalV I env) S (.fieldAddr 25 (.tmp 2) 0)) l (some 71) env) ∧
  (stepQ P I o3_47 nq S p3_47_2 l env = bindQ nq S (op1 P (evalV I env) S (.load 22 (.tmp 71))) l (some 72) env) ∧
  (stepQ P I o3_47 nq S p3_47_3 l env = bindQ nq S (op1 P (evalV I env) S (.move (.tmp 9))) l (some 73) env) ∧
  (stepQ P I o3_47 nq S p3_47_4 l env = bindQ nq S (op1 P (evalV I env) S (.slice 22 (.tmp 72) none (some (.tmp 73)) none)) l (some 74) env) ∧
  (stepQ P I o3_47 nq S p3_47_5 l env = bindQ nq S (opCall P (evalV I env) S { callee := .builtin .append, args := #[.tmp 70, .tmp 74], argTypes := #[22, 22] }) l (some 75) env) ∧
  (stepQ P I o3_47 nq S p3_47_6 l env = bindQ nq S (op1 P (evalV I env) S (.fieldAddr 25 (.tmp 2) 0)) l (some 76) env) ∧
  (stepQ P I o3_47 nq S p3_47_7 l env = bindQ nq S (op1 P (evalV I env) S (.load 22 (.tmp 76))) l (some 77) env) ∧
  (stepQ P I o3_47 nq S p3_47_8 l env = bindQ nq S (op1 P (evalV I env) S (.move (.tmp 9))) l (some 78) env) ∧
  (stepQ P I o3_47 nq S p3_47_9 l env = bindQ nq S (op1 P (evalV I env) S (.binOp .add 3 (.tmp 78) (.const (.int .i64 1)) 3)) l (some 79) env) ∧
  (stepQ P I o3_47 nq S p3_47_10 l env = bindQ nq S (op1 P (evalV I env) S (.slice 22 (.tmp 77) (some (.tmp 79)) none none)) l (some 80) env) ∧
  (stepQ P I o3_47 nq S p3_47_11 l env = bindQ nq S (opCall P (evalV I env) S { callee := .builtin .append, args := #[.tmp 75, .tmp 80], argTypes := #[22, 22] }) l (some 81) env) ∧
  (stepQ P I o3_47 nq S p3_47_12 l env = bindQ nq S (op1 P (evalV I env) S (.fieldAddr 25 (.tmp 5) 0)) l (some 82) env) ∧
  (stepQ P I o3_47 nq S p3_47_13 l env = bindQ nq S (op1 P (evalV I env) S (.store 22 (.tmp 82) (.tmp 81))) l none env) ∧
  (stepQ P I o3_49 nq S p3_49_0 l env = bindQ nq S (op1 P (evalV I env) S (.load 25 (.tmp 5))) l (some 83) env) ∧
  (stepQ P I o3_49 nq S p3_49_1 l env = callQ P I nq S { callee := .value (.func 6), args := #[.tmp 83], argTypes := #[25] } (evalV I env (.func 6)) [evalV I env (.tmp 83)] l (some 84) env) ∧
  (stepQ P I o3_49 nq S p3_49_2 l env = bindQ nq S (op1 P (evalV I env) S (.move (.tmp 84))) l (some 85) env) ∧
  (stepQ P I o3_49 nq S p3_49_3 l env = stepV P I nq S (env.getD 85 .undef) true p3_49_3 l env) ∧
  (opQ P I nq S p3_49_3 l env = bindQ nq S (op1 P (evalV I env) S (.load 25 (.tmp 5))) l (some 86) env) ∧
  (stepQ P I o3_49 nq S p3_49_4 l env = stepV P I nq S (env.getD 85 .undef) true p3_49_4 l env) ∧
  (opQ P I nq S p3_49_4 l env = callQ P I nq S { callee := .value (.func 7), args := #[.tmp 86], argTypes := #[25] } (evalV I env (.func 7)) [evalV I env (.tmp 86)] l (some 87) env) ∧
  (stepQ P I o3_49 nq S p3_49_5 l env = stepV P I nq S (env.getD 85 .undef) true p3_49_5 l env) ∧
  (opQ P I nq S p3_49_5 l env = bindQ nq S (op1 P (evalV I env) S (.load 25 (.tmp 2))) l (some 88) env) ∧
  (stepQ P I o3_49 nq S p3_49_6 l env = stepV P I nq S (env.getD 85 .undef) true p3_49_6 l env) ∧
  (opQ P I nq S p3_49_6 l env = callQ P I nq S { callee := .value (.func 7), args := #[.tmp 88], argTypes := #[25] } (evalV I env (.func 7)) [evalV I env (.tmp 88)] l (some 89) env) ∧
  (stepQ P I o3_49 nq S p3_49_7 l env = stepV P I nq S (env.getD 85 .undef) true p3_49_7 l env) ∧
  (opQ P I nq S p3_49_7 l env = bindQ nq S (op1 P (evalV I env) S (.binOp .lss 3 (.tmp 87) (.tmp 89) 3)) l (some 90) env) ∧
  (stepQ P I o3_49 nq S p3_49_8 l env = bindQ nq S (op1 P (evalV I env) S (.pick (.tmp 85) (.tmp 90) (.const (.bool false)))) l (some 91) env) ∧
  (stepQ P I o3_49 nq S p3_49_9 l env = bindQ nq S (op1 P (evalV I env) S (.assign (.tmp 91))) l (some 4) env) := by
  repeat' apply And.intro
  all_goals kernel_rfl
theorem c3t  : (p3_12_3.dst = (some 15)) ∧
  (p3_12_4.dst = (some 16)) ∧
  (p3_12_5.dst = (some 17)) ∧
  (o3_29.toList = [p3_29_0, p3_29_1, p3_29_2, p3_29_3, p3_29_4, p3_29_5, p3_29_6, p3_29_7, p3_29_8, p3_29_9, p3_29_10, p3_29_11, p3_29_12, p3_29_13]) ∧
  (p3_29_5.op = .call { callee := .builtin .append, args := #[.tmp 31, .tmp 35], argTypes := #[23, 23] }) ∧
  (p3_29_5.dst = (some 36)) ∧
  (p3_29_11.op = .call { callee := .builtin .append, args := #[.tmp 36, .tmp 41], argTypes := #[23, 23] }) ∧
  (p3_29_11.dst = (some 42)) ∧
  (p3_29_13.op = .store 23 (.tmp 43) (.tmp 42)) ∧
  (p3_29_13.dst = none) ∧
  (o3_31.toList = [p3_31_0, p3_31_1, p3_31_2, p3_31_3, p3_31_4, p3_31_5, p3_31_6, p3_31_7, p3_31_8, p3_31_9, p3_31_10, p3_31_11, p3_31_12, p3_31_13, p3_31_14]) ∧
  (p3_31_4.dst = (some 48)) ∧
  (p3_31_5.dst = (some 49)) ∧
  (p3_31_6.dst = (some 50)) ∧
  (p3_31_7.dst = (some 51)) ∧
  (p3_31_8.dst = (some 52)) ∧
  (p3_31_11.dst = (some 55)) ∧
  (p3_31_12.dst = (some 56)) ∧
  (p3_31_13.dst = (some 57)) ∧
  (o3_47.toList = [p3_47_0, p3_47_1, p3_47_2, p3_47_3, p3_47_4, p3_47_5, p3_47_6, p3_47_7, p3_47_8, p3_47_9, p3_47_10, p3_47_11, p3_47_12, p3_47_13]) ∧
  (p3_47_5.op = .call { callee := .builtin .append, args := #[.tmp 70, .tmp 74], argTypes := #[22, 22] }) ∧
  (p3_47_5.dst = (some 75)) ∧
  (p3_47_11.op = .call { callee := .builtin .append, args := #[.tmp 75, .tmp 80], argTypes := #[22, 22] }) ∧
  (p3_47_11.dst = (some 81)) ∧
  (p3_47_13.op = .store 22 (.tmp 82) (.tmp 81)) ∧
  (p3_47_13.dst = none) ∧
  (o3_49.toList = [p3_49_0, p3_49_1, p3_49_2, p3_49_3, p3_49_4, p3_49_5, p3_49_6, p3_49_7, p3_49_8, p3_49_9]) ∧
  (p3_49_3.dst = (some 86)) ∧
  (p3_49_4.dst = (some 87)) ∧
  (p3_49_5.dst = (some 88)) ∧
  (p3_49_6.dst = (some 89)) ∧
  (p3_49_7.dst = (some 90)) := by
  repeat' apply And.intro
  all_goals kernel_rfl
set_option linter.defProp false in
/-- All of these. -/
def c3 := And.intro @c3s ( And.intro @c3r ( And.intro @c3q (@c3t)))

theorem at_in (a : Int) (l : Nat) (h0 : 0 < l) (h1 : l ≤ 9223372036854775807) : IntKind.u64.wrap (l : Int) = l ∧ ∃ K : Nat, K < l ∧ IntKind.i64.wrap ((IntKind.u64.wrap a).tmod (l : Int)) = (K : Int) := by
  have h2 : IntKind.u64.wrap (l : Int) = l := by
    unfold IntKind.wrap
    simp [IntKind.signed, IntKind.bits]
    omega
  refine ⟨h2, ?_⟩
  have h3 : 0 ≤ IntKind.u64.wrap a := by
    unfold IntKind.wrap
    simp [IntKind.signed, IntKind.bits]
    omega
  rw [Int.tmod_eq_emod_of_nonneg h3]
  have h4 := Int.emod_nonneg (IntKind.u64.wrap a) (show (l : Int) ≠ 0 by omega)
  have h5 := Int.emod_lt_of_pos (IntKind.u64.wrap a) (show (0 : Int) < l by omega)
  refine ⟨(IntKind.u64.wrap a % (l : Int)).toNat, by omega, ?_⟩
  rw [wrap_in _ (by omega)]
  omega
set_option maxHeartbeats 4000000 in
theorem less_ab (pr : PrT) (a : Int) : AFn Tryd.prog TabI 3 [prV pr, .d (.int .i64 a)] ⟨[], []⟩ (fun v _ => v = .d (.bool true)) := by
  obtain ⟨n, hD⟩ : ∃ n, ∀ f ∈ pr.funcs, ∀ x ∈ f.body, Dp n x := by
    refine ⟨SizeOf.sizeOf pr.funcs, fun f hf x hx => Dp.of_size _ x ?_⟩
    have h1 := List.sizeOf_lt_of_mem hf
    have h2 := List.sizeOf_lt_of_mem hx
    have h3 : SizeOf.sizeOf f.body < SizeOf.sizeOf f := by cases f; simp only [FuT.mk.sizeOf_spec]; omega
    omega
  have hright := right_ab n pr (fun f hf x hx => stmt_ab n x (hD f hf x hx))
  have hgreat := great_ab pr
  unfold prV at hright hgreat ⊢
  refine AFn.bodyE (body := k3_0) 92 Tryd.func3 (by kernel_rfl) (by kernel_rfl) (by kernel_rfl) (Nat.le_of_ble_eq_true rfl) fun hsm => ?_
  simp only [smL, sm, exV, stV, tyV, caV, paV, suV, fuV, prV, Bool.and_eq_true, decide_eq_true_eq, and_true, true_and, List.length_map, ssD_length] at hsm
  refine ARun.go 30 ?_
  simp -implicitDefEqProofs only [awC, awN, Nat.reduceAdd, Nat.reduceSub, Nat.reduceLT, Nat.reduceLeDiff, Nat.reduceEqDiff, Int.reduceToNat, Int.reduceEq, Int.reduceLT, Int.reduceLE, Int.reduceNeg, Int.reduceAdd, Int.reduceSub, Nat.reduceBEq, awT, c3, tys]
  refine callS_fn (works24_ab _) ?_
  rintro _ _ ⟨rfl, rfl⟩
  refine ARun.go 200 ?_
  simp -implicitDefEqProofs only [awC, awN, Nat.reduceAdd, Nat.reduceSub, Nat.reduceLT, Nat.reduceLeDiff, Nat.reduceEqDiff, Int.reduceToNat, Int.reduceEq, Int.reduceLT, Int.reduceLE, Int.reduceNeg, Int.reduceAdd, Int.reduceSub, Nat.reduceBEq, awT, c3, tys]
  refine callS_fn (hgreat _) ?_
  rintro _ _ ⟨rfl, rfl⟩
  cases hgr : decide (2500 < prW pr 2500)
  case true =>
    refine ARun.go 200 ?_
    simp -implicitDefEqProofs only [awC, awN, Nat.reduceAdd, Nat.reduceSub, Nat.reduceLT, Nat.reduceLeDiff, Nat.reduceEqDiff, Int.reduceToNat, Int.reduceEq, Int.reduceLT, Int.reduceLE, Int.reduceNeg, Int.reduceAdd, Int.reduceSub, Nat.reduceBEq, awT, c3, tys, hgr]
    refine ARun.ret Tryd.func3 rfl (Left.empty ?_)
    exact rfl
  refine ARun.go 200 ?_
  simp -implicitDefEqProofs only [awC, awN, Nat.reduceAdd, Nat.reduceSub, Nat.reduceLT, Nat.reduceLeDiff, Nat.reduceEqDiff, Int.reduceToNat, Int.reduceEq, Int.reduceLT, Int.reduceLE, Int.reduceNeg, Int.reduceAdd, Int.reduceSub, Nat.reduceBEq, awT, c3, tys, hgr]
  refine callS_fn (hright _ _) ?_
  rintro _ _ ⟨rfl, rfl⟩
  cases hr : (prS n pr 0).1
  case false =>
    refine ARun.go 200 ?_
    simp -implicitDefEqProofs only [awC, awN, Nat.reduceAdd, Nat.reduceSub, Nat.reduceLT, Nat.reduceLeDiff, Nat.reduceEqDiff, Int.reduceToNat, Int.reduceEq, Int.reduceLT, Int.reduceLE, Int.reduceNeg, Int.reduceAdd, Int.reduceSub, Nat.reduceBEq, awT, c3, tys, hr]
    refine ARun.ret Tryd.func3 rfl (Left.empty ?_)
    exact rfl
  have hcnt := right_count n pr hr
  have hns : (pr.structs.length : Int) + pr.funcs.length ≤ 60000 := by
    have h1 := prN_parts n pr
    have h2 := sumS_pos (fun s : SuT => paC_pos s.fields) pr.structs
    have h3 := sumS_pos (fuP_nn n) pr.funcs
    change 0 ≤ sumS suP pr.structs at h2
    omega
  have hparts := parts_ab n pr hD hcnt.2
  unfold prV at hparts
  have hrest : ∀ (fs : List FuT) (F : V) (T : List (Nat × Nat)) (env' : List V), wk 0 0 F = .d (.sl (fs.map fuD)) → (∀ f ∈ fs, ∀ x ∈ f.body, Dp n x) → (prS n ⟨pr.structs, fs⟩ 0).1 = true → prN n ⟨pr.structs, fs⟩ ≤ prN n pr →
      EnvW (envS 92 [(1, .d (.int .i64 a)), (2, .ptr 0 0), (5, .ptr 1 0), (8, .d (.int .i64 pr.structs.length))]) env' →
      ARun Tryd.prog TabI (0, 0) 3 [.code k3_41, .code k3_52] env' ⟨[[.d (.sl (pr.structs.map suD)), .d (.sl (pr.funcs.map fuD))], [.d (.sl (pr.structs.map suD)), F]], T⟩ (Ab.Left ⟨[], []⟩ fun v _ => v = .d (.bool true)) := by
    intro fs F T env' hF hfd hfr hfl henv
    refine ARun.weak henv ?_
    cases hs0 : decide ((0 : Int) < (pr.structs.length : Int))
    · refine ARun.go 200 ?_
      simp -implicitDefEqProofs only [awC, awN, Nat.reduceAdd, Nat.reduceSub, Nat.reduceLT, Nat.reduceLeDiff, Nat.reduceEqDiff, Int.reduceToNat, Int.reduceEq, Int.reduceLT, Int.reduceLE, Int.reduceNeg, Int.reduceAdd, Int.reduceSub, Nat.reduceBEq, awT, c3, tys, hs0]
      refine ARun.ret Tryd.func3 rfl (Left.empty ?_)
      exact rfl
    have hpos := of_decide_eq_true hs0
    obtain ⟨hu, K, hK, hKe⟩ := at_in a pr.structs.length (by omega) (by omega)
    have hne : ¬ (pr.structs.length : Int) = 0 := by omega
    obtain ⟨N, hT⟩ : ∃ N, T.length = N := ⟨_, rfl⟩
    have hkl : (K : Int) ≤ (pr.structs.length : Int) := by omega
    have hkl1 : (K : Int) + 1 ≤ (pr.structs.length : Int) := by omega
    have hwk := wrap_in ((K : Int) + 1) (by omega)
    have hmt : (pr.structs.map suD).take K = (pr.structs.take K).map suD := List.map_take.symm
    have hmd : (pr.structs.map suD).drop (K + 1) = (pr.structs.drop (K + 1)).map suD := List.map_drop.symm
    have hmin : min K pr.structs.length = K := by omega
    have hcap : K * 40 ≤ 140737488355328 := by omega
    have hcap2 : (K + (pr.structs.length - (K + 1))) * 40 ≤ 140737488355328 := by omega
    have hall2 : ((pr.structs.drop (K + 1)).map suD).take (pr.structs.length - (K + 1)) = (pr.structs.drop (K + 1)).map suD := List.take_of_length_le (by simp)
    have hk0 : (0 : Int) ≤ (K : Int) + 1 := by omega
    have hk1 : ((K : Int) + 1).toNat = K + 1 := by omega
    refine ARun.go 200 ?_
    simp -implicitDefEqProofs only [awC, awN, Nat.reduceAdd, Nat.reduceSub, Nat.reduceLT, Nat.reduceLeDiff, Nat.reduceEqDiff, Int.reduceToNat, Int.reduceEq, Int.reduceLT, Int.reduceLE, Int.reduceNeg, Int.reduceAdd, Int.reduceSub, Nat.reduceBEq, awT, c3, tys, hs0, hu, hKe, hne]
    have hb0 : ∀ b, (mems [⟨[[.d (.sl (pr.structs.map suD)), .d (.sl (pr.funcs.map fuD))], [.d (.sl (pr.structs.map suD)), F]], T⟩, ⟨[[.d (.sl (pr.structs.map suD)), .d (.sl (pr.funcs.map fuD))], [.d (.sl (pr.structs.map suD)), F]], T ++ [(K, 2)]⟩, ⟨[[.d (.sl (pr.structs.map suD)), .d (.sl (pr.funcs.map fuD))], [.d (.sl (pr.structs.map suD)), F]], T ++ [(K + (pr.structs.length - (K + 1)), 2)]⟩, ⟨[[.d (.sl (pr.structs.map suD)), .d (.sl (pr.funcs.map fuD))], [.sl ((pr.structs.take K).map suD ++ (pr.structs.drop (K + 1)).map suD) (.own N), F]], T ++ [(K + (pr.structs.length - (K + 1)), 2)]⟩] b).boxes[0]? = some [.d (.sl (pr.structs.map suD)), .d (.sl (pr.funcs.map fuD))] :=
      mems_all _ (fun m => m.boxes[0]? = some [.d (.sl (pr.structs.map suD)), .d (.sl (pr.funcs.map fuD))]) (fun m hm => by
        simp only [List.mem_cons, List.not_mem_nil, or_false] at hm
        rcases hm with rfl | rfl | rfl | rfl <;> rfl) (by simp)
    refine ARun.drawW [5, 11, 13] (mems [⟨[[.d (.sl (pr.structs.map suD)), .d (.sl (pr.funcs.map fuD))], [.d (.sl (pr.structs.map suD)), F]], T⟩, ⟨[[.d (.sl (pr.structs.map suD)), .d (.sl (pr.funcs.map fuD))], [.d (.sl (pr.structs.map suD)), F]], T ++ [(K, 2)]⟩, ⟨[[.d (.sl (pr.structs.map suD)), .d (.sl (pr.funcs.map fuD))], [.d (.sl (pr.structs.map suD)), F]], T ++ [(K + (pr.structs.length - (K + 1)), 2)]⟩, ⟨[[.d (.sl (pr.structs.map suD)), .d (.sl (pr.funcs.map fuD))], [.sl ((pr.structs.take K).map suD ++ (pr.structs.drop (K + 1)).map suD) (.own N), F]], T ++ [(K + (pr.structs.length - (K + 1)), 2)]⟩]) rfl (by kernel_rfl) (by kernel_rfl) (by kernel_rfl) ?_
    simp -implicitDefEqProofs only [awC, awN, Nat.reduceAdd, Nat.reduceSub, Nat.reduceLT, Nat.reduceLeDiff, Nat.reduceEqDiff, Int.reduceToNat, Int.reduceEq, Int.reduceLT, Int.reduceLE, Int.reduceNeg, Int.reduceAdd, Int.reduceSub, Nat.reduceBEq, awT, c3, tys]
    refine lexW_q (env' := ?_) (by rfl) (fun b => ?_) ?_
    rotate_left
    · simp -implicitDefEqProofs only [awC, awN, Nat.reduceAdd, Nat.reduceSub, Nat.reduceLT, Nat.reduceLeDiff, Nat.reduceEqDiff, Int.reduceToNat, Int.reduceEq, Int.reduceLT, Int.reduceLE, Int.reduceNeg, Int.reduceAdd, Int.reduceSub, Nat.reduceBEq, awT, c3, tys, Nat.reduceMul]
      exact rfl
    refine lexW_q (env' := ?_) (by rfl) (fun b => ?_) ?_
    rotate_left
    · simp -implicitDefEqProofs only [awC, awN, Nat.reduceAdd, Nat.reduceSub, Nat.reduceLT, Nat.reduceLeDiff, Nat.reduceEqDiff, Int.reduceToNat, Int.reduceEq, Int.reduceLT, Int.reduceLE, Int.reduceNeg, Int.reduceAdd, Int.reduceSub, Nat.reduceBEq, awT, c3, tys]
      exact rfl
    refine lexW_q (env' := ?_) (by rfl) (fun b => ?_) ?_
    rotate_left
    · simp -implicitDefEqProofs only [awC, awN, Nat.reduceAdd, Nat.reduceSub, Nat.reduceLT, Nat.reduceLeDiff, Nat.reduceEqDiff, Int.reduceToNat, Int.reduceEq, Int.reduceLT, Int.reduceLE, Int.reduceNeg, Int.reduceAdd, Int.reduceSub, Nat.reduceBEq, awT, c3, tys, hb0]
      exact rfl
    refine lexW_q (env' := ?_) (by rfl) (fun b => ?_) ?_
    rotate_left
    · simp -implicitDefEqProofs only [awC, awN, Nat.reduceAdd, Nat.reduceSub, Nat.reduceLT, Nat.reduceLeDiff, Nat.reduceEqDiff, Int.reduceToNat, Int.reduceEq, Int.reduceLT, Int.reduceLE, Int.reduceNeg, Int.reduceAdd, Int.reduceSub, Nat.reduceBEq, awT, c3, tys]
      exact rfl
    refine lexW_q (env' := ?_) (by rfl) (fun b => ?_) ?_
    rotate_left
    · simp -implicitDefEqProofs only [awC, awN, Nat.reduceAdd, Nat.reduceSub, Nat.reduceLT, Nat.reduceLeDiff, Nat.reduceEqDiff, Int.reduceToNat, Int.reduceEq, Int.reduceLT, Int.reduceLE, Int.reduceNeg, Int.reduceAdd, Int.reduceSub, Nat.reduceBEq, awT, c3, tys, hkl, hmt]
      exact rfl
    have hr0 : rowsSz 2 ([] : List (List D)) = true := rfl
    refine lexW_w (v := ?_) (by rfl) (by kernel_rfl) ?_ ?_
    rotate_left
    · simp -implicitDefEqProofs only [awC, awN, Nat.reduceAdd, Nat.reduceSub, Nat.reduceLT, Nat.reduceLeDiff, Nat.reduceEqDiff, Int.reduceToNat, Int.reduceEq, Int.reduceLT, Int.reduceLE, Int.reduceNeg, Int.reduceAdd, Int.reduceSub, Nat.reduceBEq, awT, c3, tys, mems_0, mems_1, mems_2, mems_3, hr0, hT, hmin, hcap, hKe, Nat.reduceMul, List.length_take]
      exact rfl
    refine lexW_q (env' := ?_) (by rfl) (fun b => ?_) ?_
    rotate_left
    · simp -implicitDefEqProofs only [awC, awN, Nat.reduceAdd, Nat.reduceSub, Nat.reduceLT, Nat.reduceLeDiff, Nat.reduceEqDiff, Int.reduceToNat, Int.reduceEq, Int.reduceLT, Int.reduceLE, Int.reduceNeg, Int.reduceAdd, Int.reduceSub, Nat.reduceBEq, awT, c3, tys]
      exact rfl
    refine lexW_q (env' := ?_) (by rfl) (fun b => ?_) ?_
    rotate_left
    · simp -implicitDefEqProofs only [awC, awN, Nat.reduceAdd, Nat.reduceSub, Nat.reduceLT, Nat.reduceLeDiff, Nat.reduceEqDiff, Int.reduceToNat, Int.reduceEq, Int.reduceLT, Int.reduceLE, Int.reduceNeg, Int.reduceAdd, Int.reduceSub, Nat.reduceBEq, awT, c3, tys, hb0]
      exact rfl
    refine lexW_q (env' := ?_) (by rfl) (fun b => ?_) ?_
    rotate_left
    · simp -implicitDefEqProofs only [awC, awN, Nat.reduceAdd, Nat.reduceSub, Nat.reduceLT, Nat.reduceLeDiff, Nat.reduceEqDiff, Int.reduceToNat, Int.reduceEq, Int.reduceLT, Int.reduceLE, Int.reduceNeg, Int.reduceAdd, Int.reduceSub, Nat.reduceBEq, awT, c3, tys]
      exact rfl
    refine lexW_q (env' := ?_) (by rfl) (fun b => ?_) ?_
    rotate_left
    · simp -implicitDefEqProofs only [awC, awN, Nat.reduceAdd, Nat.reduceSub, Nat.reduceLT, Nat.reduceLeDiff, Nat.reduceEqDiff, Int.reduceToNat, Int.reduceEq, Int.reduceLT, Int.reduceLE, Int.reduceNeg, Int.reduceAdd, Int.reduceSub, Nat.reduceBEq, awT, c3, tys, hwk]
      exact rfl
    refine lexW_q (env' := ?_) (by rfl) (fun b => ?_) ?_
    rotate_left
    · simp -implicitDefEqProofs only [awC, awN, Nat.reduceAdd, Nat.reduceSub, Nat.reduceLT, Nat.reduceLeDiff, Nat.reduceEqDiff, Int.reduceToNat, Int.reduceEq, Int.reduceLT, Int.reduceLE, Int.reduceNeg, Int.reduceAdd, Int.reduceSub, Nat.reduceBEq, awT, c3, tys, hk1, hkl1, hmd, hall2, hk0]
      exact rfl
    refine lexW_w (v := ?_) (by rfl) (by kernel_rfl) ?_ ?_
    rotate_left
    · simp -implicitDefEqProofs only [awC, awN, Nat.reduceAdd, Nat.reduceSub, Nat.reduceLT, Nat.reduceLeDiff, Nat.reduceEqDiff, Int.reduceToNat, Int.reduceEq, Int.reduceLT, Int.reduceLE, Int.reduceNeg, Int.reduceAdd, Int.reduceSub, Nat.reduceBEq, awT, c3, tys, mems_0, mems_1, mems_2, mems_3, hr0, hT, hmin, hcap2, hKe, Nat.reduceMul, List.length_take, List.length_drop]
      exact rfl
    refine lexW_q (env' := ?_) (by rfl) (fun b => ?_) ?_
    rotate_left
    · simp -implicitDefEqProofs only [awC, awN, Nat.reduceAdd, Nat.reduceSub, Nat.reduceLT, Nat.reduceLeDiff, Nat.reduceEqDiff, Int.reduceToNat, Int.reduceEq, Int.reduceLT, Int.reduceLE, Int.reduceNeg, Int.reduceAdd, Int.reduceSub, Nat.reduceBEq, awT, c3, tys]
      exact rfl
    refine lexW_w (v := ?_) (by rfl) (by kernel_rfl) ?_ ?_
    rotate_left
    · simp -implicitDefEqProofs only [awC, awN, Nat.reduceAdd, Nat.reduceSub, Nat.reduceLT, Nat.reduceLeDiff, Nat.reduceEqDiff, Int.reduceToNat, Int.reduceEq, Int.reduceLT, Int.reduceLE, Int.reduceNeg, Int.reduceAdd, Int.reduceSub, Nat.reduceBEq, awT, c3, tys, mems_0, mems_1, mems_2, mems_3, hT]
      exact rfl
    refine lexW_end ?_
    have hq := less_struct_N n ⟨pr.structs, fs⟩ K hK hfr
    have hq2 := right_ab n ⟨pr.structs.take K ++ pr.structs.drop (K + 1), fs⟩ (fun f hf x hx => stmt_ab n x (hfd f hf x hx)) [] []
    have hq3 := parts_ab n ⟨pr.structs.take K ++ pr.structs.drop (K + 1), fs⟩ hfd (by have := hq.2; have := hcnt.2; dsimp only at *; omega) ⟨[], []⟩
    rw [hq.1] at hq2
    unfold prV at hq2 hq3
    have hlt : decide (prN n ⟨pr.structs.take K ++ pr.structs.drop (K + 1), fs⟩ < prN n pr) = true := decide_eq_true (by have := hq.2; dsimp only at *; omega)
    change ARun _ _ _ _ _ _ ⟨[[.d (.sl (pr.structs.map suD)), .d (.sl (pr.funcs.map fuD))], [.sl ((pr.structs.take K).map suD ++ (pr.structs.drop (K + 1)).map suD) (.own N), F]], T ++ [(K + (pr.structs.length - (K + 1)), 2)]⟩ _
    refine ARun.go 200 ?_
    simp -implicitDefEqProofs only [awC, awN, Nat.reduceAdd, Nat.reduceSub, Nat.reduceLT, Nat.reduceLeDiff, Nat.reduceEqDiff, Int.reduceToNat, Int.reduceEq, Int.reduceLT, Int.reduceLE, Int.reduceNeg, Int.reduceAdd, Int.reduceSub, Nat.reduceBEq, awT, c3, tys]
    refine ARun.draw (by kernel_rfl) (by kernel_rfl) (lexQ_ok 60 _ _ ?_)
    simp -implicitDefEqProofs only [awC, awN, Nat.reduceAdd, Nat.reduceSub, Nat.reduceLT, Nat.reduceLeDiff, Nat.reduceEqDiff, Int.reduceToNat, Int.reduceEq, Int.reduceLT, Int.reduceLE, Int.reduceNeg, Int.reduceAdd, Int.reduceSub, Nat.reduceBEq, awT, c3, tys]
    refine ⟨_, AFn.sameW hq2.only (by simp [wkL, wk, hF]) rfl _, ?_⟩
    simp -implicitDefEqProofs only [awC, awN, Nat.reduceAdd, Nat.reduceSub, Nat.reduceLT, Nat.reduceLeDiff, Nat.reduceEqDiff, Int.reduceToNat, Int.reduceEq, Int.reduceLT, Int.reduceLE, Int.reduceNeg, Int.reduceAdd, Int.reduceSub, Nat.reduceBEq, awT, c3, tys]
    refine ⟨_, AFn.sameW hq3.only (by simp [wkL, wk, hF]) rfl _, ?_⟩
    refine ⟨_, hparts _, ?_⟩
    simp -implicitDefEqProofs only [awC, awN, Nat.reduceAdd, Nat.reduceSub, Nat.reduceLT, Nat.reduceLeDiff, Nat.reduceEqDiff, Int.reduceToNat, Int.reduceEq, Int.reduceLT, Int.reduceLE, Int.reduceNeg, Int.reduceAdd, Int.reduceSub, Nat.reduceBEq, awT, c3, tys, hlt]
    refine ARun.go 200 ?_
    simp -implicitDefEqProofs only [awC, awN, Nat.reduceAdd, Nat.reduceSub, Nat.reduceLT, Nat.reduceLeDiff, Nat.reduceEqDiff, Int.reduceToNat, Int.reduceEq, Int.reduceLT, Int.reduceLE, Int.reduceNeg, Int.reduceAdd, Int.reduceSub, Nat.reduceBEq, awT, c3, tys]
    refine ARun.ret Tryd.func3 rfl (Left.empty ?_)
    exact rfl
  cases hf0 : decide ((0 : Int) < (pr.funcs.length : Int))
  · refine ARun.go 34 ?_
    simp -implicitDefEqProofs only [awC, awN, Nat.reduceAdd, Nat.reduceSub, Nat.reduceLT, Nat.reduceLeDiff, Nat.reduceEqDiff, Int.reduceToNat, Int.reduceEq, Int.reduceLT, Int.reduceLE, Int.reduceNeg, Int.reduceAdd, Int.reduceSub, Nat.reduceBEq, awT, c3, tys, hr, hf0]
    refine hrest pr.funcs (.d (.sl (pr.funcs.map fuD))) [] _ rfl hD hr (Int.le_refl _) ?_
    refine Agree.env _ ?_
    simp only [agree_cons, agree_nil, eq_self, and_self, true_and, and_true, Int.natCast_add, Int.natCast_one, Int.natCast_zero, envS_get, envS_eval, lk_cons, lk_nil, Nat.reduceBEq, Nat.reduceAdd, Nat.reduceSub, cond_true, cond_false]
  have hpos := of_decide_eq_true hf0
  obtain ⟨hu, K, hK, hKe⟩ := at_in a pr.funcs.length (by omega) (by omega)
  have hne : ¬ (pr.funcs.length : Int) = 0 := by omega
  have hkl : (K : Int) ≤ (pr.funcs.length : Int) := by omega
  have hkl1 : (K : Int) + 1 ≤ (pr.funcs.length : Int) := by omega
  have hwk := wrap_in ((K : Int) + 1) (by omega)
  have hmt : (pr.funcs.map fuD).take K = (pr.funcs.take K).map fuD := List.map_take.symm
  have hmd : (pr.funcs.map fuD).drop (K + 1) = (pr.funcs.drop (K + 1)).map fuD := List.map_drop.symm
  have hmin : min K pr.funcs.length = K := by omega
  have hcap : K * 88 ≤ 140737488355328 := by omega
  have hcap2 : (K + (pr.funcs.length - (K + 1))) * 88 ≤ 140737488355328 := by omega
  have hall2 : ((pr.funcs.drop (K + 1)).map fuD).take (pr.funcs.length - (K + 1)) = (pr.funcs.drop (K + 1)).map fuD := List.take_of_length_le (by simp)
  have hk0 : (0 : Int) ≤ (K : Int) + 1 := by omega
  have hk1 : ((K : Int) + 1).toNat = K + 1 := by omega
  have hr0 : rowsSz 4 ([] : List (List D)) = true := rfl
  refine ARun.go 200 ?_
  simp -implicitDefEqProofs only [awC, awN, Nat.reduceAdd, Nat.reduceSub, Nat.reduceLT, Nat.reduceLeDiff, Nat.reduceEqDiff, Int.reduceToNat, Int.reduceEq, Int.reduceLT, Int.reduceLE, Int.reduceNeg, Int.reduceAdd, Int.reduceSub, Nat.reduceBEq, awT, c3, tys, hr, hf0, hu, hKe, hne]
  have hb0 : ∀ b, (mems [⟨[[.d (.sl (pr.structs.map suD)), .d (.sl (pr.funcs.map fuD))], [.d (.sl (pr.structs.map suD)), .d (.sl (pr.funcs.map fuD))]], []⟩, ⟨[[.d (.sl (pr.structs.map suD)), .d (.sl (pr.funcs.map fuD))], [.d (.sl (pr.structs.map suD)), .d (.sl (pr.funcs.map fuD))]], [(K, 4)]⟩, ⟨[[.d (.sl (pr.structs.map suD)), .d (.sl (pr.funcs.map fuD))], [.d (.sl (pr.structs.map suD)), .d (.sl (pr.funcs.map fuD))]], [(K + (pr.funcs.length - (K + 1)), 4)]⟩, ⟨[[.d (.sl (pr.structs.map suD)), .d (.sl (pr.funcs.map fuD))], [.d (.sl (pr.structs.map suD)), .sl ((pr.funcs.take K).map fuD ++ (pr.funcs.drop (K + 1)).map fuD) (.own 0)]], [(K + (pr.funcs.length - (K + 1)), 4)]⟩] b).boxes[0]? = some [.d (.sl (pr.structs.map suD)), .d (.sl (pr.funcs.map fuD))] :=
    mems_all _ (fun m => m.boxes[0]? = some [.d (.sl (pr.structs.map suD)), .d (.sl (pr.funcs.map fuD))]) (fun m hm => by
      simp only [List.mem_cons, List.not_mem_nil, or_false] at hm
      rcases hm with rfl | rfl | rfl | rfl <;> rfl) (by simp)
  refine ARun.drawW [5, 11, 13] (mems [⟨[[.d (.sl (pr.structs.map suD)), .d (.sl (pr.funcs.map fuD))], [.d (.sl (pr.structs.map suD)), .d (.sl (pr.funcs.map fuD))]], []⟩, ⟨[[.d (.sl (pr.structs.map suD)), .d (.sl (pr.funcs.map fuD))], [.d (.sl (pr.structs.map suD)), .d (.sl (pr.funcs.map fuD))]], [(K, 4)]⟩, ⟨[[.d (.sl (pr.structs.map suD)), .d (.sl (pr.funcs.map fuD))], [.d (.sl (pr.structs.map suD)), .d (.sl (pr.funcs.map fuD))]], [(K + (pr.funcs.length - (K + 1)), 4)]⟩, ⟨[[.d (.sl (pr.structs.map suD)), .d (.sl (pr.funcs.map fuD))], [.d (.sl (pr.structs.map suD)), .sl ((pr.funcs.take K).map fuD ++ (pr.funcs.drop (K + 1)).map fuD) (.own 0)]], [(K + (pr.funcs.length - (K + 1)), 4)]⟩]) rfl (by kernel_rfl) (by kernel_rfl) (by kernel_rfl) ?_
  simp -implicitDefEqProofs only [awC, awN, Nat.reduceAdd, Nat.reduceSub, Nat.reduceLT, Nat.reduceLeDiff, Nat.reduceEqDiff, Int.reduceToNat, Int.reduceEq, Int.reduceLT, Int.reduceLE, Int.reduceNeg, Int.reduceAdd, Int.reduceSub, Nat.reduceBEq, awT, c3, tys]
  refine lexW_q (env' := ?_) (by rfl) (fun b => ?_) ?_
  rotate_left
  · simp -implicitDefEqProofs only [awC, awN, Nat.reduceAdd, Nat.reduceSub, Nat.reduceLT, Nat.reduceLeDiff, Nat.reduceEqDiff, Int.reduceToNat, Int.reduceEq, Int.reduceLT, Int.reduceLE, Int.reduceNeg, Int.reduceAdd, Int.reduceSub, Nat.reduceBEq, awT, c3, tys, Nat.reduceMul]
    exact rfl
  refine lexW_q (env' := ?_) (by rfl) (fun b => ?_) ?_
  rotate_left
  · simp -implicitDefEqProofs only [awC, awN, Nat.reduceAdd, Nat.reduceSub, Nat.reduceLT, Nat.reduceLeDiff, Nat.reduceEqDiff, Int.reduceToNat, Int.reduceEq, Int.reduceLT, Int.reduceLE, Int.reduceNeg, Int.reduceAdd, Int.reduceSub, Nat.reduceBEq, awT, c3, tys]
    exact rfl
  refine lexW_q (env' := ?_) (by rfl) (fun b => ?_) ?_
  rotate_left
  · simp -implicitDefEqProofs only [awC, awN, Nat.reduceAdd, Nat.reduceSub, Nat.reduceLT, Nat.reduceLeDiff, Nat.reduceEqDiff, Int.reduceToNat, Int.reduceEq, Int.reduceLT, Int.reduceLE, Int.reduceNeg, Int.reduceAdd, Int.reduceSub, Nat.reduceBEq, awT, c3, tys, hb0]
    exact rfl
  refine lexW_q (env' := ?_) (by rfl) (fun b => ?_) ?_
  rotate_left
  · simp -implicitDefEqProofs only [awC, awN, Nat.reduceAdd, Nat.reduceSub, Nat.reduceLT, Nat.reduceLeDiff, Nat.reduceEqDiff, Int.reduceToNat, Int.reduceEq, Int.reduceLT, Int.reduceLE, Int.reduceNeg, Int.reduceAdd, Int.reduceSub, Nat.reduceBEq, awT, c3, tys]
    exact rfl
  refine lexW_q (env' := ?_) (by rfl) (fun b => ?_) ?_
  rotate_left
  · simp -implicitDefEqProofs only [awC, awN, Nat.reduceAdd, Nat.reduceSub, Nat.reduceLT, Nat.reduceLeDiff, Nat.reduceEqDiff, Int.reduceToNat, Int.reduceEq, Int.reduceLT, Int.reduceLE, Int.reduceNeg, Int.reduceAdd, Int.reduceSub, Nat.reduceBEq, awT, c3, tys, hkl, hmt]
    exact rfl
  refine lexW_w (v := ?_) (by rfl) (by kernel_rfl) ?_ ?_
  rotate_left
  · simp -implicitDefEqProofs only [awC, awN, Nat.reduceAdd, Nat.reduceSub, Nat.reduceLT, Nat.reduceLeDiff, Nat.reduceEqDiff, Int.reduceToNat, Int.reduceEq, Int.reduceLT, Int.reduceLE, Int.reduceNeg, Int.reduceAdd, Int.reduceSub, Nat.reduceBEq, awT, c3, tys, mems_0, mems_1, mems_2, mems_3, hr0, hmin, hcap, hKe, Nat.reduceMul, List.length_take]
    exact rfl
  refine lexW_q (env' := ?_) (by rfl) (fun b => ?_) ?_
  rotate_left
  · simp -implicitDefEqProofs only [awC, awN, Nat.reduceAdd, Nat.reduceSub, Nat.reduceLT, Nat.reduceLeDiff, Nat.reduceEqDiff, Int.reduceToNat, Int.reduceEq, Int.reduceLT, Int.reduceLE, Int.reduceNeg, Int.reduceAdd, Int.reduceSub, Nat.reduceBEq, awT, c3, tys]
    exact rfl
  refine lexW_q (env' := ?_) (by rfl) (fun b => ?_) ?_
  rotate_left
  · simp -implicitDefEqProofs only [awC, awN, Nat.reduceAdd, Nat.reduceSub, Nat.reduceLT, Nat.reduceLeDiff, Nat.reduceEqDiff, Int.reduceToNat, Int.reduceEq, Int.reduceLT, Int.reduceLE, Int.reduceNeg, Int.reduceAdd, Int.reduceSub, Nat.reduceBEq, awT, c3, tys, hb0]
    exact rfl
  refine lexW_q (env' := ?_) (by rfl) (fun b => ?_) ?_
  rotate_left
  · simp -implicitDefEqProofs only [awC, awN, Nat.reduceAdd, Nat.reduceSub, Nat.reduceLT, Nat.reduceLeDiff, Nat.reduceEqDiff, Int.reduceToNat, Int.reduceEq, Int.reduceLT, Int.reduceLE, Int.reduceNeg, Int.reduceAdd, Int.reduceSub, Nat.reduceBEq, awT, c3, tys]
    exact rfl
  refine lexW_q (env' := ?_) (by rfl) (fun b => ?_) ?_
  rotate_left
  · simp -implicitDefEqProofs only [awC, awN, Nat.reduceAdd, Nat.reduceSub, Nat.reduceLT, Nat.reduceLeDiff, Nat.reduceEqDiff, Int.reduceToNat, Int.reduceEq, Int.reduceLT, Int.reduceLE, Int.reduceNeg, Int.reduceAdd, Int.reduceSub, Nat.reduceBEq, awT, c3, tys, hwk]
    exact rfl
  refine lexW_q (env' := ?_) (by rfl) (fun b => ?_) ?_
  rotate_left
  · simp -implicitDefEqProofs only [awC, awN, Nat.reduceAdd, Nat.reduceSub, Nat.reduceLT, Nat.reduceLeDiff, Nat.reduceEqDiff, Int.reduceToNat, Int.reduceEq, Int.reduceLT, Int.reduceLE, Int.reduceNeg, Int.reduceAdd, Int.reduceSub, Nat.reduceBEq, awT, c3, tys, hk1, hkl1, hmd, hall2, hk0]
    exact rfl
  refine lexW_w (v := ?_) (by rfl) (by kernel_rfl) ?_ ?_
  rotate_left
  · simp -implicitDefEqProofs only [awC, awN, Nat.reduceAdd, Nat.reduceSub, Nat.reduceLT, Nat.reduceLeDiff, Nat.reduceEqDiff, Int.reduceToNat, Int.reduceEq, Int.reduceLT, Int.reduceLE, Int.reduceNeg, Int.reduceAdd, Int.reduceSub, Nat.reduceBEq, awT, c3, tys, mems_0, mems_1, mems_2, mems_3, hr0, hmin, hcap2, hKe, Nat.reduceMul, List.length_take, List.length_drop]
    exact rfl
  refine lexW_q (env' := ?_) (by rfl) (fun b => ?_) ?_
  rotate_left
  · simp -implicitDefEqProofs only [awC, awN, Nat.reduceAdd, Nat.reduceSub, Nat.reduceLT, Nat.reduceLeDiff, Nat.reduceEqDiff, Int.reduceToNat, Int.reduceEq, Int.reduceLT, Int.reduceLE, Int.reduceNeg, Int.reduceAdd, Int.reduceSub, Nat.reduceBEq, awT, c3, tys]
    exact rfl
  refine lexW_w (v := ?_) (by rfl) (by kernel_rfl) ?_ ?_
  rotate_left
  · simp -implicitDefEqProofs only [awC, awN, Nat.reduceAdd, Nat.reduceSub, Nat.reduceLT, Nat.reduceLeDiff, Nat.reduceEqDiff, Int.reduceToNat, Int.reduceEq, Int.reduceLT, Int.reduceLE, Int.reduceNeg, Int.reduceAdd, Int.reduceSub, Nat.reduceBEq, awT, c3, tys, mems_0, mems_1, mems_2, mems_3]
    exact rfl
  refine lexW_end ?_
  have hq := less_func_N n pr K hK hr
  have hqd : ∀ f ∈ pr.funcs.take K ++ pr.funcs.drop (K + 1), ∀ x ∈ f.body, Dp n x := fun f hf => hD f (by
    rcases List.mem_append.1 hf with h | h
    · exact List.mem_of_mem_take h
    · exact List.mem_of_mem_drop h)
  have hq2 := right_ab n ⟨pr.structs, pr.funcs.take K ++ pr.funcs.drop (K + 1)⟩ (fun f hf x hx => stmt_ab n x (hqd f hf x hx)) [] []
  have hq3 := parts_ab n ⟨pr.structs, pr.funcs.take K ++ pr.funcs.drop (K + 1)⟩ hqd (by have := hq.2; have := hcnt.2; omega) ⟨[], []⟩
  have hq4 := same_ab pr ⟨pr.structs, pr.funcs.take K ++ pr.funcs.drop (K + 1)⟩ ⟨[], []⟩
  rw [hq.1] at hq2
  have hne4 : eqPr pr ⟨pr.structs, pr.funcs.take K ++ pr.funcs.drop (K + 1)⟩ = false := by
    unfold eqPr
    rw [eqF_len eqFu pr.funcs _ (by simp only [List.length_append, List.length_take, List.length_drop]; omega), Bool.and_false]
  rw [hne4] at hq4
  have hlt : decide (prN n pr ≤ prN n ⟨pr.structs, pr.funcs.take K ++ pr.funcs.drop (K + 1)⟩) = false := decide_eq_false (by have := hq.2; omega)
  unfold prV at hq2 hq3 hq4
  change ARun _ _ _ _ _ _ ⟨[[.d (.sl (pr.structs.map suD)), .d (.sl (pr.funcs.map fuD))], [.d (.sl (pr.structs.map suD)), .sl ((pr.funcs.take K).map fuD ++ (pr.funcs.drop (K + 1)).map fuD) (.own 0)]], [(K + (pr.funcs.length - (K + 1)), 4)]⟩ _
  refine ARun.go 200 ?_
  simp -implicitDefEqProofs only [awC, awN, Nat.reduceAdd, Nat.reduceSub, Nat.reduceLT, Nat.reduceLeDiff, Nat.reduceEqDiff, Int.reduceToNat, Int.reduceEq, Int.reduceLT, Int.reduceLE, Int.reduceNeg, Int.reduceAdd, Int.reduceSub, Nat.reduceBEq, awT, c3, tys]
  refine ARun.draw (by kernel_rfl) (by kernel_rfl) (lexQ_ok 60 _ _ ?_)
  simp -implicitDefEqProofs only [awC, awN, Nat.reduceAdd, Nat.reduceSub, Nat.reduceLT, Nat.reduceLeDiff, Nat.reduceEqDiff, Int.reduceToNat, Int.reduceEq, Int.reduceLT, Int.reduceLE, Int.reduceNeg, Int.reduceAdd, Int.reduceSub, Nat.reduceBEq, awT, c3, tys]
  refine ⟨_, AFn.sameW hq2.only (by simp [wkL, wk]) rfl _, ?_⟩
  simp -implicitDefEqProofs only [awC, awN, Nat.reduceAdd, Nat.reduceSub, Nat.reduceLT, Nat.reduceLeDiff, Nat.reduceEqDiff, Int.reduceToNat, Int.reduceEq, Int.reduceLT, Int.reduceLE, Int.reduceNeg, Int.reduceAdd, Int.reduceSub, Nat.reduceBEq, awT, c3, tys]
  refine ⟨_, AFn.sameW hq3.only (by simp [wkL, wk]) rfl _, ?_⟩
  refine ⟨_, hparts _, ?_⟩
  simp -implicitDefEqProofs only [awC, awN, Nat.reduceAdd, Nat.reduceSub, Nat.reduceLT, Nat.reduceLeDiff, Nat.reduceEqDiff, Int.reduceToNat, Int.reduceEq, Int.reduceLT, Int.reduceLE, Int.reduceNeg, Int.reduceAdd, Int.reduceSub, Nat.reduceBEq, awT, c3, tys, hlt]
  refine ⟨_, AFn.sameW hq4.only (by simp [wkL, wk]) rfl _, ?_⟩
  simp -implicitDefEqProofs only [awC, awN, Nat.reduceAdd, Nat.reduceSub, Nat.reduceLT, Nat.reduceLeDiff, Nat.reduceEqDiff, Int.reduceToNat, Int.reduceEq, Int.reduceLT, Int.reduceLE, Int.reduceNeg, Int.reduceAdd, Int.reduceSub, Nat.reduceBEq, awT, c3, tys]
  refine ARun.go 10 ?_
  simp -implicitDefEqProofs only [awC, awN, Nat.reduceAdd, Nat.reduceSub, Nat.reduceLT, Nat.reduceLeDiff, Nat.reduceEqDiff, Int.reduceToNat, Int.reduceEq, Int.reduceLT, Int.reduceLE, Int.reduceNeg, Int.reduceAdd, Int.reduceSub, Nat.reduceBEq, awT, c3, tys]
  refine hrest (pr.funcs.take K ++ pr.funcs.drop (K + 1)) _ _ _ (by simp [wk]) hqd hq.1 (by have := hq.2; omega) ?_
  refine Agree.env _ ?_
  simp only [agree_cons, agree_nil, eq_self, and_self, true_and, and_true, Int.natCast_add, Int.natCast_one, Int.natCast_zero, envS_get, envS_eval, lk_cons, lk_nil, Nat.reduceBEq, Nat.reduceAdd, Nat.reduceSub, cond_true, cond_false]
end Go.Proofs.YtombghldgdcjcaaDoor

/- Arguments of types without pointers, opened as data. No program in sight. -/
namespace Go.Ab
open Go.ChangeShapes Go.WideShapes Go.ChangeAt Go.RowKit Go.Av

def wfFs (T : TypeId → List D → Prop) : List Field → List D → Prop
  | [], ds => ds = []
  | f :: fs, ds => ∃ a b, ds = a ++ b ∧ T f.type a ∧ wfFs T fs b
/-- Cells that are data of a type, at most n deep. -/
def wfT (P : Program) : Nat → TypeId → List D → Prop
  | 0, _, _ => False
  | n + 1, t, ds => match P.underlying t with
    | some .bool => ∃ b, ds = [.bool b]
    | some (.int k) => ∃ m, ds = [.int k m] ∧ (Lit.int k m).wf = true
    | some .string => ∃ s, ds = [.str s] ∧ s.length ≤ 9223372036854775807
    | some (.slice e) => ∃ rows, ds = [.sl rows] ∧ rows.length ≤ 9223372036854775807 ∧ ∀ r ∈ rows, wfT P n e r
    | some (.struct fs) => wfFs (wfT P n) fs.toList ds
    | _ => False
def offsOf (P : Program) : List Field → Nat → Option Nat
  | [], o => some o
  | f :: fs, o => if f.offset = o then offsOf P fs (o + P.cellsOf f.type) else none
def plainT (P : Program) (L : List TypeId) (t : TypeId) : Bool :=
  match P.underlying t with
  | some .bool => true
  | some (.int _) => true
  | some .string => true
  | some (.slice e) => L.contains e && decide (0 < P.cellsOf e)
  | some (.struct fs) => fs.toList.all (fun f => L.contains f.type) && offsOf P fs.toList 0 == some (P.cellsOf t)
  | _ => false
theorem list_of2 {α : Type} (Q : Nat → α → Prop) : ∀ len : Nat, (∀ i < len, ∃ a, Q i a) → ∃ l : List α, l.length = len ∧ ∀ i (hi : i < l.length), Q i l[i]
  | 0, _ => ⟨[], rfl, fun i hi => by cases hi⟩
  | n + 1, h => by
    obtain ⟨l, hl, hq⟩ := list_of2 Q n (fun i hi => h i (by omega))
    obtain ⟨a, ha⟩ := h n (by omega)
    refine ⟨l ++ [a], by simp [hl], fun i hi => ?_⟩
    by_cases hin : i < l.length
    · rw [List.getElem_append_left hin]
      exact hq i hin
    · have : i = n := by simp at hi; omega
      subst this
      have hla : (l ++ [a])[i]'hi = a := by
        rw [List.getElem_append_right (by omega)]
        simp
      rw [hla]
      exact ha
theorem cell_in2 {w : World} {a : Addr} {v : Value} (h : w.cell? a = some v) : a.block < w.heap.size ∧ a.spot = none := by
  unfold World.cell? at h
  cases hb : w.heap[a.block]? with
  | none => rw [hb] at h; cases h
  | some o =>
    refine ⟨(Array.getElem?_eq_some_iff.1 hb).1, ?_⟩
    rw [hb] at h
    cases o <;> simp at h
    obtain ⟨h1, _⟩ := h
    exact h1

section
variable {P : Program} {H : Type} {enc : TypeId × Value → H} {W : World} {sp : Nat → Bool} {held : Bool}
/-- Nothing that is there may be written. -/
abbrev NewM (W : World) : Nat → Nat → Prop := fun g _ => W.heap.size ≤ g
def Opened (P : Program) (W : World) (n : Nat) (t : TypeId) (cs : List Value) (ds : List D) : Prop := wfT P n t ds ∧ ds.length = cs.length ∧ ∀ j (h : j < ds.length), DR (NewM W) W ds[j] (cs.getD j undef)
theorem open_fields (n : Nat) (cs : List Value) : ∀ (l : List Field) (o : Nat), offsOf P l o = some cs.length →
    (∀ f ∈ l, ∃ ds, Opened P W n f.type ((cs.drop f.offset).take (P.cellsOf f.type)) ds) → o ≤ cs.length ∧ ∃ ds, wfFs (wfT P n) l ds ∧ ds.length = cs.length - o ∧ ∀ j (h : j < ds.length), DR (NewM W) W ds[j] (cs.getD (o + j) undef)
  | [], o, h, _ => by
    have : o = cs.length := Option.some.inj h
    exact ⟨by omega, [], rfl, by simp; omega, fun j h => by simp at h⟩
  | f :: fs, o, h, hf => by
    unfold offsOf at h
    split at h
    case isFalse => cases h
    rename_i ho
    obtain ⟨a, a1, a2, a3⟩ := hf f List.mem_cons_self
    obtain ⟨b0, b, b1, b2, b3⟩ := open_fields n cs fs _ h fun g hg => hf g (List.mem_cons_of_mem _ hg)
    rw [ho] at a2 a3
    have ha : a.length = P.cellsOf f.type := by rw [a2, List.length_take, List.length_drop]; omega
    refine ⟨by omega, a ++ b, ⟨a, b, rfl, a1, b1⟩, by rw [List.length_append, b2]; omega, fun j hj => ?_⟩
    rcases Nat.lt_or_ge j a.length with hlt | hge
    · rw [List.getElem_append_left hlt]
      have := a3 j hlt
      rw [List.getD_eq_getElem?_getD, List.getElem?_take, if_pos (by omega), List.getElem?_drop] at this
      rw [List.getD_eq_getElem?_getD]
      exact this
    · rw [List.getElem_append_right hge]
      have := b3 (j - a.length) (by rw [List.length_append] at hj; omega)
      rw [show o + P.cellsOf f.type + (j - a.length) = o + j by omega] at this
      exact this
theorem open_D (L : List TypeId) (hL : L.all (plainT P L) = true) : ∀ (fuel : Nat) (t : TypeId) (cs : List Value) (y : DataW H × List MemPlace), L.contains t = true → DataW.trod enc P W 0 sp held fuel t cs = some y → ∃ ds, Opened P W fuel t cs ds := by
  intro fuel
  induction fuel with
  | zero => intro t cs y _ h; simp [DataW.trod] at h
  | succ n ih =>
    intro t cs y ht h
    have hpl := List.all_eq_true.1 hL t (List.contains_iff_mem.1 ht)
    unfold plainT at hpl
    split at hpl
    · rename_i hu
      obtain ⟨b, rfl, _⟩ := DataW.trod_bool hu h
      refine ⟨[.bool b], ?_, rfl, fun j hj => ?_⟩
      · simp only [wfT, hu]; exact ⟨b, rfl⟩
      · have : j = 0 := by simp at hj; exact hj
        subst this; exact .bool b
    · rename_i k hu
      obtain ⟨m, rfl, _, hw⟩ := DataW.trod_int hu h
      refine ⟨[.int k m], ?_, rfl, fun j hj => ?_⟩
      · simp only [wfT, hu]; exact ⟨m, rfl, hw⟩
      · have : j = 0 := by simp at hj; exact hj
        subst this; exact .int k m
    · rename_i hu
      obtain ⟨s, rfl, _, hs⟩ := DataW.trod_string hu h
      have hsl : s.data.toList.length ≤ 9223372036854775807 := by
        have : s.data.toList.length = s.size := by rw [Array.length_toList]; rfl
        rw [this]
        exact hs
      refine ⟨[.str s.data.toList], ?_, rfl, fun j hj => ?_⟩
      · simp only [wfT, hu]; exact ⟨_, rfl, hsl⟩
      · have : j = 0 := by simp at hj; exact hj
        subst this
        have := DR.str (M := NewM W) (w := W) s.data.toList hsl
        exact this
    · rename_i e hu
      simp only [Bool.and_eq_true, decide_eq_true_eq] at hpl
      obtain ⟨he, hpos⟩ := hpl
      rcases DataW.trod_slice hu h with ⟨rfl, _⟩ | ⟨a, len, cap, elems, rest, n', hn', rfl, _, _, hlc, hcm, hel, hq, _⟩
      · refine ⟨[.sl []], ?_, rfl, fun j hj => ?_⟩
        · simp only [wfT, hu]; exact ⟨[], rfl, by simp, by simp⟩
        · have : j = 0 := by simp at hj; exact hj
          subst this
          exact .sl [] 1 none 0 (fun _ _ => undef) (by omega) (by simp) (by simp) (by omega) (fun h => absurd rfl h) (fun j h => by simp at h)
      · obtain rfl : n = n' := by omega
        obtain ⟨rows, hrl, hrq⟩ := list_of2 (fun i (ds : List D) => ∃ ci, W.cells? 0 (a.add (i * P.cellsOf e)) (P.cellsOf e) = some ci ∧ Opened P W n e ci ds) len (fun i hi => by
          have hqi := hq i hi
          rw [List.getElem?_eq_getElem (by omega), Option.bind_eq_some_iff] at hqi
          obtain ⟨ci, hci, hti⟩ := hqi
          obtain ⟨ds, hds⟩ := ih e ci _ he hti
          exact ⟨ds, ci, hci, hds⟩)
        subst hrl
        have hci : ∀ i (hi : i < rows.length), (rows[i]).length = P.cellsOf e ∧ ∀ q (h : q < (rows[i]).length), ∃ v, W.cell? (a.add (i * P.cellsOf e + q)) = some v ∧ DR (NewM W) W (rows[i])[q] v := by
          intro i hi
          obtain ⟨ci, h1, h2, h3, h4⟩ := hrq i hi
          have h5 := World.cells?_some h1
          have hlen : ci.length = P.cellsOf e := h5.2.1
          refine ⟨by omega, fun q hq => ?_⟩
          have h6 := h5.2.2 q (by omega)
          rw [Addr.add_add] at h6
          refine ⟨ci[q]'(by omega), by rw [h6]; simp, ?_⟩
          have h7 := h4 q hq
          rw [List.getD_eq_getElem?_getD, List.getElem?_eq_getElem (by omega)] at h7
          exact h7
        refine ⟨[.sl rows], ?_, rfl, fun j hj => ?_⟩
        · simp only [wfT, hu]
          refine ⟨rows, rfl, by have : maxLen = 9223372036854775807 := rfl; omega, fun r hr => ?_⟩
          obtain ⟨i, hi, rfl⟩ := List.mem_iff_getElem.1 hr
          obtain ⟨ci, _, h2, _⟩ := hrq i hi
          exact h2
        · have : j = 0 := by simp at hj; exact hj
          subst this
          have haddr : rows ≠ [] → a.block < W.heap.size ∧ a.spot = none := by
            intro hne
            have h0 : 0 < rows.length := by
              rcases Nat.eq_zero_or_pos rows.length with e' | e'
              · exact absurd (List.eq_nil_of_length_eq_zero e') hne
              · exact e'
            obtain ⟨hl0, hc0⟩ := hci 0 h0
            obtain ⟨v, hv, _⟩ := hc0 0 (by omega)
            rw [show a.add (0 * P.cellsOf e + 0) = a by rw [Nat.zero_mul]; rfl] at hv
            exact cell_in2 hv
          have := DR.sl (M := NewM W) (w := W) rows (P.cellsOf e) (some a) cap (fun i q => (W.cell? (a.add (i * P.cellsOf e + q))).getD undef) hpos (fun r hr => by
              obtain ⟨i, hi, rfl⟩ := List.mem_iff_getElem.1 hr
              exact (hci i hi).1) hlc (by have : maxLen = 9223372036854775807 := rfl; omega) (fun hne => by
              obtain ⟨h1, h2⟩ := haddr hne
              obtain ⟨g, off, spot⟩ := a
              simp only at h1 h2
              subst h2
              refine ⟨g, off, rfl, fun j hj q hq => ⟨by show ¬ W.heap.size ≤ g; omega, ?_⟩⟩
              obtain ⟨v, hv, _⟩ := (hci j hj).2 q hq
              rw [hv]
              rw [Addr.add_plain, ← Nat.add_assoc] at hv
              exact hv) (fun j hj q hq => by
              obtain ⟨v, hv, hd⟩ := (hci j hj).2 q hq
              rw [hv]
              exact hd)
          exact this
    · rename_i fs hu
      simp only [Bool.and_eq_true] at hpl
      obtain ⟨hfs, hoff⟩ := hpl
      obtain ⟨xs, n', hn', _, hl, hxl, hf⟩ := DataW.trod_struct hu h
      obtain rfl : n = n' := by omega
      have hoff' : offsOf P fs.toList 0 = some cs.length := by rw [hl]; exact eq_of_beq hoff
      obtain ⟨_, ds, h1, h2, h3⟩ := open_fields (W := W) n cs fs.toList 0 hoff' (fun f hfm => by
        obtain ⟨i, hi, rfl⟩ := List.mem_iff_getElem.1 hfm
        have hi' : i < fs.size := by simpa using hi
        have := hf i fs[i] (by simp [hi'])
        rw [List.getElem?_eq_getElem (by omega)] at this
        exact ih _ _ _ (List.all_eq_true.1 hfs _ hfm) this)
      refine ⟨ds, ?_, by omega, fun j hj => ?_⟩
      · simp only [wfT, hu]; exact h1
      · have := h3 j hj
        rwa [Nat.zero_add] at this
    · cases hpl
end

/-! From here on: the world of a call. -/
/-- What is there may not be written. -/
def cx0 (W : World) (I : Inv) : Cx := ⟨W.heap.size, [], [], I, fun _ _ => False, fun _ _ h => h.elim⟩
theorem DR.first {W : World} {I : Inv} {x : D} {v : Value} (h : DR (NewM W) W x v) : DR (cx0 W I).M W x v := h.mono fun g k v _ hv => ⟨by
  rintro ((hm | hm) | ⟨t, i, off, ht, _⟩)
  · exact hm
  · simp [cx0] at hm
  · simp [cx0] at ht, hv⟩
theorem Rep.first {W : World} {I : Inv} (h2 : I.top ≤ W.heap.size) (hI : ∀ w', Below W.heap.size W w' → I.holds w') : Rep (cx0 W I) W ⟨[], []⟩ :=
  ⟨⟨h2, Nat.le_refl _⟩, rfl, fun i b h => by simp [cx0] at h, fun i j b h => by simp [cx0] at h, rfl, fun t i h => by simp [cx0] at h, fun t t' i i' g off off' h => by simp [cx0] at h, hI⟩
theorem first_agg {P : Program} {W : World} {I : Inv} {n : Nat} {t : TypeId} {cs : Array Value} {ds : List D} (h : Opened P W n t cs.toList ds) : VR (cx0 W I) W (.agg (ds.map .d)) (.agg cs) := by
  obtain ⟨_, h2, h3⟩ := h
  have h2 : ds.length = cs.size := by simpa using h2
  have key : ∀ j, j < ds.length → ∃ h : j < ds.length, DR (cx0 W I).M W ds[j] (cs.getD j undef) := fun j hj => ⟨hj, by
    have := (h3 j hj).first (I := I)
    rw [List.getD_eq_getElem?_getD, Array.getElem?_toList] at this
    have e : cs.getD j undef = (cs[j]?).getD undef := by simp [Array.getD, show j < cs.size by omega]
    rw [e]
    exact this⟩
  refine .agg _ _ (by rw [List.length_map]; omega) (fun j hj => ?_) (fun j hj => ?_)
  · rw [List.length_map] at hj
    obtain ⟨_, hd⟩ := key j hj
    rw [List.getElem_map]
    exact .d _ _ hd
  · rw [List.length_map] at hj
    obtain ⟨_, hd⟩ := key j hj
    exact hd.one
/-- A contract that says what comes back, as it is asked of a law. -/
theorem AFn.law {P : Program} {I : Inv} {f : FuncId} {args : List V} {b : Bool} (h : AFn P I f args ⟨[], []⟩ (fun v _ => v = .d (.bool b))) {W : World} {xs : Array Value} (h2 : I.top ≤ W.heap.size) (hI : ∀ w', Below W.heap.size W w' → I.holds w') (hs : xs.size = args.length) (hv : ∀ j (h : j < args.length), VR (cx0 W I) W args[j] (xs.getD j undef)) :
    Calls P f xs W fun e w' => e = .returned (.bool b) ∧ Below W.heap.size W w' := by
  refine (h.2 (cx0 W I) W xs hs hv (.first h2 hI) rfl).mono ?_
  rintro e w' ⟨v, x, S', c', rfl, rfl, _, hx, hvr⟩
  cases hvr with
  | d _ _ hd => cases hd with
    | bool _ => exact ⟨rfl, hx.below⟩
end Go.Ab

/- Arguments that are trees of the small language: from data to trees. -/
namespace Go.Proofs.YtombghldgdcjcaaDoor
open Go.RowKit Go.Av Go.Ab
set_option maxRecDepth 100000

section
variable {n : Nat} {ds : List D}
theorem wf_str (h : wfT Tryd.prog n 9 ds) : ∃ s, ds = [.str s] ∧ s.length ≤ 9223372036854775807 := by
  cases n with
  | zero => exact h.elim
  | succ n =>
    unfold wfT at h
    rw [Tryd.underlying9] at h
    exact h
theorem wf_int {t : TypeId} {k : IntKind} (hu : Tryd.prog.underlying t = some (.int k)) (h : wfT Tryd.prog n t ds) : ∃ m, ds = [.int k m] ∧ (Lit.int k m).wf = true := by
  cases n with
  | zero => exact h.elim
  | succ n =>
    unfold wfT at h
    rw [hu] at h
    exact h
theorem wf_sl {t e : TypeId} (hu : Tryd.prog.underlying t = some (.slice e)) {α : Type} (f : α → List D) (ih : ∀ m < n, ∀ r, wfT Tryd.prog m e r → ∃ x, r = f x) (h : wfT Tryd.prog n t ds) : ∃ l : List α, ds = [.sl (l.map f)] ∧ l.length ≤ 9223372036854775807 := by
  cases n with
  | zero => exact h.elim
  | succ n =>
    unfold wfT at h
    rw [hu] at h
    obtain ⟨rows, rfl, hl, hr⟩ := h
    have : ∃ l : List α, rows = l.map f := by
      clear hl
      induction rows with
      | nil => exact ⟨[], rfl⟩
      | cons r rows ihr =>
        obtain ⟨x, hx⟩ := ih n (by omega) r (hr r List.mem_cons_self)
        obtain ⟨l, hl⟩ := ihr fun y hy => hr y (List.mem_cons_of_mem _ hy)
        exact ⟨x :: l, by rw [hx, hl]; rfl⟩
    obtain ⟨l, rfl⟩ := this
    exact ⟨l, rfl, by simpa using hl⟩
theorem wf_struct {t : TypeId} {fs : Array Field} (hu : Tryd.prog.underlying t = some (.struct fs)) (h : wfT Tryd.prog n t ds) : ∃ m, n = m + 1 ∧ wfFs (wfT Tryd.prog m) fs.toList ds := by
  cases n with
  | zero => exact h.elim
  | succ n =>
    unfold wfT at h
    rw [hu] at h
    exact ⟨n, rfl, h⟩
end
theorem wf_ss {n : Nat} {ds : List D} (h : wfT Tryd.prog n 35 ds) : ∃ l, ds = [.sl (ssD l)] := by
  obtain ⟨l, rfl, _⟩ := wf_sl Tryd.underlying35 (fun s : List UInt8 => [D.str s]) (fun m _ r hr => (wf_str hr).imp fun _ h => h.1) h
  exact ⟨l, rfl⟩
theorem wf_ty : ∀ (n : Nat) (ds : List D), wfT Tryd.prog n 34 ds → ∃ t, ds = tyD t := by
  intro n
  induction n using Nat.strongRecOn with
  | _ n ih =>
    intro ds h
    obtain ⟨m, rfl, h⟩ := wf_struct Tryd.underlying34 h
    obtain ⟨a, _, rfl, ha, b, _, rfl, hb, c, _, rfl, hc, rfl⟩ := h
    obtain ⟨k, rfl, _⟩ := wf_int Tryd.underlying3 ha
    obtain ⟨s, rfl, _⟩ := wf_str hb
    obtain ⟨l, rfl, _⟩ := wf_sl Tryd.underlying32 tyD (fun q hq r hr => ih q (by omega) r hr) hc
    exact ⟨.mk k s l, by rw [tyD_eq]; rfl⟩
theorem wf_tys {n : Nat} {ds : List D} (h : wfT Tryd.prog n 32 ds) : ∃ l : List TyT, ds = [.sl (l.map tyD)] := by
  obtain ⟨l, rfl, _⟩ := wf_sl Tryd.underlying32 tyD (fun q _ r hr => wf_ty q r hr) h
  exact ⟨l, rfl⟩
theorem wf_ex : ∀ (n : Nat) (ds : List D), wfT Tryd.prog n 38 ds → ∃ x, ds = exD x := by
  intro n
  induction n using Nat.strongRecOn with
  | _ n ih =>
    intro ds h
    obtain ⟨m, rfl, h⟩ := wf_struct Tryd.underlying38 h
    obtain ⟨a, _, rfl, ha, b, _, rfl, hb, c, _, rfl, hc, d, _, rfl, hd, e, _, rfl, he, f, _, rfl, hf, rfl⟩ := h
    obtain ⟨k, rfl, _⟩ := wf_int Tryd.underlying3 ha
    obtain ⟨s, rfl, _⟩ := wf_str hb
    obtain ⟨i, rfl, _⟩ := wf_int Tryd.underlying28 hc
    obtain ⟨t, rfl⟩ := wf_ty _ _ hd
    obtain ⟨ns, rfl⟩ := wf_ss he
    obtain ⟨l, rfl, _⟩ := wf_sl Tryd.underlying36 exD (fun q hq r hr => ih q (by omega) r hr) hf
    exact ⟨.mk k s i t ns l, by rw [exD_eq, tyD_eq]; rfl⟩
theorem wf_exs {n : Nat} {ds : List D} (h : wfT Tryd.prog n 36 ds) : ∃ l : List ExT, ds = [.sl (l.map exD)] := by
  obtain ⟨l, rfl, _⟩ := wf_sl Tryd.underlying36 exD (fun q _ r hr => wf_ex q r hr) h
  exact ⟨l, rfl⟩
theorem wf_st : ∀ (n : Nat) (ds : List D), wfT Tryd.prog n 69 ds → ∃ x, ds = stD x := by
  intro n
  induction n using Nat.strongRecOn with
  | _ n ih =>
    intro ds h
    obtain ⟨m, rfl, h⟩ := wf_struct Tryd.underlying69 h
    obtain ⟨a, _, rfl, ha, b, _, rfl, hb, c, _, rfl, hc, d, _, rfl, hd, e, _, rfl, he, f, _, rfl, hf, g, _, rfl, hg, i, _, rfl, hi, rfl⟩ := h
    obtain ⟨k, rfl, _⟩ := wf_int Tryd.underlying3 ha
    obtain ⟨ns, rfl⟩ := wf_ss hb
    obtain ⟨t, rfl⟩ := wf_ty _ _ hc
    obtain ⟨ls, rfl⟩ := wf_exs hd
    obtain ⟨es, rfl⟩ := wf_exs he
    obtain ⟨bo, rfl, _⟩ := wf_sl Tryd.underlying54 stD (fun q hq r hr => ih q (by omega) r hr) hf
    obtain ⟨el, rfl, _⟩ := wf_sl Tryd.underlying54 stD (fun q hq r hr => ih q (by omega) r hr) hg
    obtain ⟨cs, rfl, _⟩ := wf_sl Tryd.underlying67 caD (fun q hq r hr => by
      obtain ⟨q', rfl, hr⟩ := wf_struct Tryd.underlying94 hr
      obtain ⟨a, _, rfl, ha, b, _, rfl, hb, rfl⟩ := hr
      obtain ⟨k, rfl, _⟩ := wf_int Tryd.underlying28 ha
      obtain ⟨l, rfl, _⟩ := wf_sl Tryd.underlying54 stD (fun q2 hq2 r hr => ih q2 (by omega) r hr) hb
      exact ⟨.mk k l, by rw [caD_eq]; rfl⟩) hi
    exact ⟨.mk k ns t ls es bo el cs, by rw [stD_eq, tyD_eq]; rfl⟩
theorem wf_sts {n : Nat} {ds : List D} (h : wfT Tryd.prog n 54 ds) : ∃ l : List StT, ds = [.sl (l.map stD)] := by
  obtain ⟨l, rfl, _⟩ := wf_sl Tryd.underlying54 stD (fun q _ r hr => wf_st q r hr) h
  exact ⟨l, rfl⟩
theorem wf_pas {n : Nat} {ds : List D} (h : wfT Tryd.prog n 50 ds) : ∃ l : List PaT, ds = [.sl (l.map paD)] := by
  obtain ⟨l, rfl, _⟩ := wf_sl Tryd.underlying50 paD (fun q _ r hr => by
    obtain ⟨q', rfl, hr⟩ := wf_struct Tryd.underlying60 hr
    obtain ⟨a, _, rfl, ha, b, _, rfl, hb, rfl⟩ := hr
    obtain ⟨s, rfl, _⟩ := wf_str ha
    obtain ⟨t, rfl⟩ := wf_ty _ _ hb
    exact ⟨⟨s, t⟩, by rw [tyD_eq]; rfl⟩) h
  exact ⟨l, rfl⟩
theorem wf_sus {n : Nat} {ds : List D} (h : wfT Tryd.prog n 22 ds) : ∃ l : List SuT, ds = [.sl (l.map suD)] := by
  obtain ⟨l, rfl, _⟩ := wf_sl Tryd.underlying22 suD (fun q _ r hr => by
    obtain ⟨q', rfl, hr⟩ := wf_struct Tryd.underlying52 hr
    obtain ⟨a, _, rfl, ha, b, _, rfl, hb, rfl⟩ := hr
    obtain ⟨s, rfl, _⟩ := wf_str ha
    obtain ⟨t, rfl⟩ := wf_pas hb
    exact ⟨⟨s, t⟩, rfl⟩) h
  exact ⟨l, rfl⟩
theorem wf_fus {n : Nat} {ds : List D} (h : wfT Tryd.prog n 23 ds) : ∃ l : List FuT, ds = [.sl (l.map fuD)] := by
  obtain ⟨l, rfl, _⟩ := wf_sl Tryd.underlying23 fuD (fun q _ r hr => by
    obtain ⟨q', rfl, hr⟩ := wf_struct Tryd.underlying56 hr
    obtain ⟨a, _, rfl, ha, b, _, rfl, hb, c, _, rfl, hc, d, _, rfl, hd, rfl⟩ := hr
    obtain ⟨s, rfl, _⟩ := wf_str ha
    obtain ⟨ps, rfl⟩ := wf_pas hb
    obtain ⟨rs, rfl⟩ := wf_tys hc
    obtain ⟨bo, rfl⟩ := wf_sts hd
    exact ⟨⟨s, ps, rs, bo⟩, rfl⟩) h
  exact ⟨l, rfl⟩
theorem wf_pr {n : Nat} {ds : List D} (h : wfT Tryd.prog n 25 ds) : ∃ p : PrT, ds = [.sl (p.structs.map suD), .sl (p.funcs.map fuD)] := by
  obtain ⟨q', rfl, h⟩ := wf_struct Tryd.underlying25 h
  obtain ⟨a, _, rfl, ha, b, _, rfl, hb, rfl⟩ := h
  obtain ⟨s, rfl⟩ := wf_sus ha
  obtain ⟨f, rfl⟩ := wf_fus hb
  exact ⟨⟨s, f⟩, rfl⟩
/-- The types of a program's parts. -/
def treeL : List TypeId := [3, 28, 9, 35, 34, 32, 38, 36, 69, 54, 94, 67, 60, 50, 52, 22, 56, 23, 25]
theorem treeL_ok : treeL.all (plainT Tryd.prog treeL) = true := by kernel_rfl
end Go.Proofs.YtombghldgdcjcaaDoor

/- An argument of bytes, opened; any argument that nobody wrote, shut. -/
namespace Go.Proofs.YtombghldgdcjcaaDoor
open Go.ChangeShapes Go.WideShapes Go.ChangeAt Go.RowKit Go.Av

theorem laidOut : laidOutB Tryd.prog = true := by kernel_rfl
/-- An argument that nobody wrote reads as it did. -/
theorem kept_arg {H : Type} {enc : TypeId × Value → H} {t : TypeId} {W W' : World} {v : Value} {d : DataW H} {ps : List MemPlace} (hr : Tryd.prog.readableRec t = true) (hrow : t < Tryd.prog.types.size)
    (h : DataW.Trod enc Tryd.prog W 0 (fun _ => true) true t v d ps) (hb : Below W.heap.size W W') (hlt : ∀ x ∈ ps, x.block < W.heap.size) : DataW.Trod enc Tryd.prog W' 0 (fun b => decide (b < W.heap.size)) true t v d ps :=
  Below.trod laidOut hr hrow h hb hlt
end Go.Proofs.YtombghldgdcjcaaDoor

/- From a row's list of tables of texts to what a walk asks. -/
namespace Go.Av

def textData {H : Type} (zs : List (List UInt8)) : DataW H := .agg (zs.map fun z => .lit (.string z))
theorem cells_of_texts {H : Type} {enc : TypeId × Value → H} {P : Program} {w : World} {base : Nat} {sp : Nat → Bool} {held : Bool} {fuel : Nat} {t e : TypeId} {n : Nat} {cs : List Value} {zs : List (List UInt8)} {p : List MemPlace}
    (ht : P.underlying t = some (.array n e)) (he : P.underlying e = some .string) (hce : P.cellsOf e = 1) (hct : P.cellsOf t = n)
    (h : DataW.trod enc P w base sp held fuel t cs = some (textData zs, p)) : cs = zs.map fun z => Value.string ⟨z.toArray⟩ := by
  cases fuel with
  | zero => simp [DataW.trod] at h
  | succ fuel =>
    simp only [DataW.trod, ht, hce, hct, Nat.mul_one] at h
    split at h
    · rename_i hl
      obtain ⟨xs, hm, hx⟩ := Option.map_eq_some_iff.1 h
      have hxs : xs.map (·.1) = zs.map fun z => (DataW.lit (.string z) : DataW H) := by
        have := congrArg Prod.fst hx
        simpa [textData] using this
      have hxl : xs.length = n := by simpa using Lib.mapM_length hm
      have hzl : zs.length = n := by
        have := congrArg List.length hxs
        simp at this
        omega
      apply List.ext_getElem?
      intro i
      by_cases hi : i < n
      · obtain ⟨b, hb, hf⟩ := Lib.mapM_at hm i i (by simp [hi])
        obtain ⟨z, hc, rfl, _⟩ := DataW.trod_string he hf
        have h1 : cs[i]? = some (.string z) := by
          have := congrArg (·[0]?) hc
          simpa [List.getElem?_take, List.getElem?_drop] using this
        have h2 : (xs.map (·.1))[i]? = some (DataW.lit (.string z.data.toList) : DataW H) := by simp [hb]
        rw [hxs] at h2
        simp only [List.getElem?_map, Option.map_eq_some_iff, DataW.lit.injEq, Lit.string.injEq] at h2
        obtain ⟨z', hz', e⟩ := h2
        have ez : z = ⟨z'.toArray⟩ := by
          apply ByteArray.ext
          rw [e]
        simp [h1, hz', ez]
      · rw [List.getElem?_eq_none (by omega), List.getElem?_eq_none (by simp; omega)]
    · cases h
theorem texts_of_vars {P : Program} {W : World} {name : String} {zs : List (List UInt8)} {rest : List (String × DataW Unit)} {ps : List MemPlace} {g : Nat} {t e : TypeId} {n : Nat}
    (hg : P.globalNamed name = some g) (hty : (P.globals[g]?).map (·.type) = some t) (ht : P.underlying t = some (.array n e)) (he : P.underlying e = some .string) (hce : P.cellsOf e = 1) (hct : P.cellsOf t = n)
    (h : DataW.LaidVars P W ((name, textData zs) :: rest) ps) : (∃ u fr, W.heap[g]? = some (.cells (zs.map fun z => Value.string ⟨z.toArray⟩).toArray u fr)) ∧ ∃ q, DataW.LaidVars P W rest q := by
  obtain ⟨g', t', cs, fuel, p, q, hg', ht', hvar, hd, hr, _⟩ := h
  obtain rfl := Option.some.inj (hg.symm.trans hg')
  obtain rfl := Option.some.inj (hty.symm.trans ht')
  refine ⟨?_, q, hr⟩
  have hcs := cells_of_texts ht he hce hct hd
  have ecs : cs = (zs.map fun z => Value.string ⟨z.toArray⟩).toArray := by rw [← hcs]
  unfold World.var? at hvar
  rw [hg, Option.bind_some] at hvar
  split at hvar
  · rename_i c u fr hh
    obtain rfl := Option.some.inj hvar
    exact ⟨u, fr, by rw [hh, ecs]⟩
  · cases hvar
end Go.Av

/- GoastLess: the row, then its card. -/
namespace Go.Proofs.YtombghldgdcjcaaDoor.goastLess
open Go.ChangeShapes Go.WideShapes Go.ChangeAt Go.RowKit Go.Av Go.Ab
open Go.ChangeMaps (open_string shut_string)
set_option linter.unusedVariables false

theorem own : ownKnob Tryd.prog.godebug = none := by kernel_rfl
theorem tab {W : World} (h : laidMetH Tryd.prog Rows.goastLessRow.laid W) : Tabs W := by
  have h' : laidMet Tryd.prog Rows.goastLessRow.laid W := h
  obtain ⟨ps, hv, _⟩ := h'
  obtain ⟨⟨u, fr, h1⟩, ps2, hv2⟩ := texts_of_vars (zs := signsL) (g := 0) (t := 104) (e := 9) (n := 29) (by kernel_rfl) (by kernel_rfl) Tryd.underlying104 Tryd.underlying9 (by kernel_rfl) (by kernel_rfl) hv
  obtain ⟨⟨u2, fr2, h2⟩, _⟩ := texts_of_vars (zs := keysL) (g := 1) (t := 113) (e := 9) (n := 22) (by kernel_rfl) (by kernel_rfl) Tryd.underlying113 Tryd.underlying9 (by kernel_rfl) (by kernel_rfl) hv2
  exact ⟨⟨u, fr, h1⟩, ⟨u2, fr2, h2⟩⟩
noncomputable def laidWorld (os : Os) : World := World.laidAll Tryd.prog os Rows.goastLessRow.laid
theorem laid_met (os : Os) : laidMet Tryd.prog Rows.goastLessRow.laid ((laidWorld os).forCall (fun _ _ => 0) ⟨#[], #[Value.agg #[.slice none 0 0, .slice none 0 0], .int .i64 0], []⟩).memory :=
  laidMet_laidAll _ (by kernel_rfl) (by kernel_rfl)
theorem reads (os : Os) {H : Type} (enc : TypeId × Value → H) : ∃ places, DataW.whole enc Tryd.prog ((laidWorld os).forCall (fun _ _ => 0) ⟨#[], #[Value.agg #[.slice none 0 0, .slice none 0 0], .int .i64 0], []⟩).memory Tryd.f3.params.toList Rows.goastLessSpec.vars false #[Value.agg #[.slice none 0 0, .slice none 0 0], .int .i64 0].toList 8 = some ([.agg [.nil, .nil], .lit (.int .i64 0)], [], places) :=
  ⟨[], by kernel_rfl⟩

set_option maxRecDepth 100000 in
theorem lifted (os : Os) (started : os.Started) (H : Type) (enc : TypeId × Value → H) (F : Stop.Interp) :
    ReturnsInHanded {} Tryd.checked os 3 .any ((OpenSpec.ofChange Rows.goastLessSpec).preRow enc Tryd.prog Tryd.f3 Rows.goastLessRow.domain false Rows.goastLessRow.laid) (((OpenSpec.ofChange Rows.goastLessSpec).at F).post enc Tryd.prog Tryd.f3 false true false false) := by
  obtain ⟨places, hx⟩ := reads os enc
  refine returnsInHanded_of_row (C := Tryd.checked) (s := OpenSpec.ofChange Rows.goastLessSpec) own started (by kernel_rfl) Tryd.func3
    (witness_row_at (enc := enc) (C := Tryd.checked) false (laidWorld os) #[Value.agg #[.slice none 0 0, .slice none 0 0], .int .i64 0] (World.laidAll_os _ _ _) (by kernel_rfl) (by kernel_rfl) (by kernel_rfl)
      (OpenSpec.preRow_of_cond 8 hx (by kernel_rfl) (fun k hk => by cases hk) (by kernel_rfl) (laid_met os))) ?_
  intro W base args ds gs before hval hW _ _ _ hL _ _
  have hW' := hW
  obtain ⟨p, q, hA0, hV, rfl, hfz, hnd⟩ := hW
  have hA : DataW.TrodAll enc Tryd.prog W 0 (fun _ => true) true Tryd.f3.params.toList args.toList ds p := hA0
  rw [Tryd.params3] at hA hval
  obtain ⟨v0, vs0, d0, ds0, p0, q0, hargs, rfl, rfl, h0, r0⟩ := trodAll_cons hA
  obtain ⟨v1, vs1, d1, ds1, p1, q1, rfl, rfl, rfl, h1, r1⟩ := trodAll_cons r0
  obtain ⟨rfl, rfl, rfl⟩ := trodAll_nil r1
  obtain rfl : args = #[v0, v1] := by cases args; simp_all
  obtain ⟨rfl, rfl⟩ := trodVars_none hV
  have hlt : ∀ x ∈ (p0 ++ (p1 ++ [])), x.block < W.heap.size := fun x hx => by simpa using hW'.lt x (by simpa using hx)
  obtain ⟨c0, rfl, _⟩ := okWide_struct Tryd.underlying25 (hval 0 25 v0 rfl rfl)
  obtain ⟨u0, g0⟩ := h0
  obtain ⟨y0, o0⟩ := open_D (W := W) (enc := enc) treeL treeL_ok u0 25 c0.toList _ (by kernel_rfl) g0
  have h0 := (⟨u0, g0⟩ : DataW.Trod enc Tryd.prog W 0 (fun _ => true) true 25 (.agg c0) d0 p0)
  have q0 := first_agg (I := TabI) o0
  obtain ⟨x0, rfl⟩ := wf_pr o0.1
  obtain ⟨a1, rfl, rfl, rfl, w1⟩ := open_int Tryd.underlying3 (hval 1 3 v1 rfl rfl) h1
  clear hA0 hval
  simp only [List.append_nil] at hW'
  have hmx : maxLen = 9223372036854775807 := rfl
  have hT := tab hL
  refine ((less_ab x0 a1).law (W := W) (xs := #[.agg c0, .int .i64 a1]) (show 2 ≤ W.heap.size by have := hT.size; omega) (fun w hb => hT.below hb) rfl (fun j hj => ?_)).mono fun e W' ⟨he, bel⟩ => ?_
  · match j, hj with
    | 0, _ => exact q0
    | 1, _ => exact .d _ _ (.int _ _)
  subst he
  exact ⟨_, rfl, _, _, _, [], _, [], hW', trodAll_mk1 (shut_bool Tryd.underlying4 _), (trodAll_cons_mk (kept_arg (by kernel_rfl) (of_decide_eq_true (by kernel_rfl)) h0 bel (fun x hx => hlt x (by simp [hx]))) (trodAll_cons_mk (shut_int Tryd.underlying3 w1) trodAll_mk0)), rfl, bel.frame _, fun h => by cases h⟩

theorem said : Rows.GoastLessSaid :=
  OpenClaim.holds_of_cond 3 Tryd.f3 rfl rfl rfl rfl rfl rfl rfl ⟨rfl, rfl, rfl, rfl, rfl⟩ rfl rfl rfl rfl rfl (by kernel_rfl) Tryd.func3 (by kernel_rfl)
    (of_decide_eq_true (by kernel_rfl)) (by unfold Func.isWrapper; first | (rw [if_pos (by decide +kernel)]; kernel_rfl) | (rw [if_neg (by decide +kernel)]; exact ⟨rfl, rfl⟩))
    (fun os started H enc _ F => by rw [OpenClaim.pre_eq_preRow]; exact lifted os started H enc F)
theorem plain (f : FuncId) (fn : Func) (hf : Tryd.pinned.checked.prog.funcNamed "avocet/avocetlaw24.GoastLess" = some f) (hfn : Tryd.pinned.checked.prog.funcs[f]? = some fn) :
    false = Tryd.pinned.checked.prog.looks [] ∧ ∀ (j : Nat) t, fn.params[j]? = some t → Tryd.pinned.checked.prog.wantsStandIn t = false := by
  obtain rfl : f = 3 := Option.some.inj ((show Tryd.prog.funcNamed "avocet/avocetlaw24.GoastLess" = some 3 by kernel_rfl).symm.trans hf) |>.symm
  obtain rfl : fn = Tryd.f3 := (Option.some.inj (Tryd.func3.symm.trans hfn)).symm
  refine ⟨by kernel_rfl, fun j t ht => ?_⟩
  rw [Tryd.params3] at ht
  have hm := Array.mem_of_getElem? ht
  have : t = 25 ∨ t = 3 := by simpa using hm
  rcases this with rfl | rfl
  · exact (show Tryd.prog.wantsStandIn 25 = false by kernel_rfl)
  · exact (show Tryd.prog.wantsStandIn 3 = false by kernel_rfl)
theorem proved : Rows.GoastLessCardSaid :=
  Claim7.holds_tied_plain_at .later [] _ _ _ _ said (fun _ h => by cases h) (by kernel_rfl) (fun _ h => by cases h) goastLess_row_tie rfl ⟨rfl, rfl⟩ (by kernel_rfl) rfl plain (by kernel_rfl)
#print axioms proved
end Go.Proofs.YtombghldgdcjcaaDoor.goastLess

