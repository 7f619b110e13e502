/- GoastLess (avocetlaw24) holds, as the tied card says it: a program that may be may be without any one of its functions, and of its structs, and it has fewer parts then. No conditions. Part 5 of 6 of the proof. -/
import Derived.Test.YtombghldgdcjcaaDoorGoastLessd
/- The checker: a program. -/
namespace Go.Proofs.YtombghldgdcjcaaDoor
open Go.RowKit Go.Av Go.Ab
set_option linter.unusedSimpArgs false
set_option maxRecDepth 100000
noncomputable def k38_0 : Code := bodyOf Tryd.f38
noncomputable def k38_1 : Code := lft k38_0
noncomputable def o38_1 : Array Oper := opsOf k38_1
noncomputable def k38_2 : Code := rgt k38_0
noncomputable def k38_3 : Code := lft k38_2
noncomputable def o38_3 : Array Oper := opsOf k38_3
noncomputable def k38_4 : Code := rgt k38_2
theorem c38s (I : Inv) (next stop : Cont) (k : List Item) (env : List V) (S : Mem) : (codeS I next stop k38_1 k env S = next (.inRegion o38_1 [0, 1] :: k) env S) ∧
  (codeS I next stop k38_3 k env S = next (.inRegion o38_3 [0, 1, 2, 3, 4] :: k) env S) ∧
  (codeS I next stop k38_4 k env S = stop (.code .ret :: k) env S) ∧
  (codeS I next stop k38_2 k env S = next (.code k38_3 :: .code k38_4 :: k) env S) ∧
  (codeS I next stop k38_0 k env S = next (.code k38_1 :: .code k38_2 :: k) env S) := by
  repeat' apply And.intro
  all_goals kernel_rfl
theorem c38r (P : Program) (I : Inv) (next stop : Cont) (rest : List Nat) (k : List Item) (env : List V) (S : Mem) : (regS P I next stop o38_1 0 rest k env S = bindS next (op1 P (evalV I env) S (.box 34 (.tmp 0))) (.inRegion o38_1 rest :: k) (some 2) env) ∧
  (regS P I next stop o38_1 1 rest k env S = bindS next (op1 P (evalV I env) S (.assign (.const (.bool false)))) (.inRegion o38_1 rest :: k) (some 3) env) ∧
  (regS P I next stop o38_3 0 rest k env S = bindS next (op1 P (evalV I env) S (.load 44 (.tmp 1))) (.inRegion o38_3 rest :: k) (some 4) env) ∧
  (regS P I next stop o38_3 1 rest k env S = bindS next (op1 P (evalV I env) S (.load 34 (.tmp 2))) (.inRegion o38_3 rest :: k) (some 5) env) ∧
  (regS P I next stop o38_3 2 rest k env S = callS P I stop (evalV I env (.func 39)) [evalV I env (.tmp 4), evalV I env (.tmp 5), evalV I env (.const (.int .i64 0))] (.inRegion o38_3 rest :: k) (some 6) env S) ∧
  (regS P I next stop o38_3 3 rest k env S = bindS next (op1 P (evalV I env) S (.unOp .not 4 (.tmp 6))) (.inRegion o38_3 rest :: k) (some 7) env) ∧
  (regS P I next stop o38_3 4 rest k env S = bindS next (op1 P (evalV I env) S (.assign (.tmp 7))) (.inRegion o38_3 rest :: k) (some 3) env) := by
  repeat' apply And.intro
  all_goals kernel_rfl
set_option linter.defProp false in
/-- All of these. -/
def c38 := And.intro @c38s (@c38r)
noncomputable def k14_0 : Code := bodyOf Tryd.f14
noncomputable def k14_1 : Code := lft k14_0
noncomputable def o14_1 : Array Oper := opsOf k14_1
noncomputable def k14_2 : Code := rgt k14_0
noncomputable def k14_3 : Code := lft k14_2
noncomputable def k14_4 : Code := lft k14_3
noncomputable def o14_4 : Array Oper := opsOf k14_4
noncomputable def k14_5 : Code := rgt k14_3
noncomputable def k14_6 : Code := lft k14_5
noncomputable def k14_7 : Code := lft k14_6
noncomputable def k14_8 : Code := lft k14_7
noncomputable def o14_8 : Array Oper := opsOf k14_8
noncomputable def k14_9 : Code := rgt k14_7
noncomputable def k14_10 : Code := lft k14_9
noncomputable def k14_11 : Code := lft k14_10
noncomputable def k14_12 : Code := rgt k14_10
noncomputable def k14_13 : Code := rgt k14_9
noncomputable def k14_14 : Code := lft k14_13
noncomputable def k14_15 : Code := lft k14_14
noncomputable def k14_16 : Code := lft k14_15
noncomputable def o14_16 : Array Oper := opsOf k14_16
noncomputable def k14_17 : Code := rgt k14_15
noncomputable def k14_18 : Code := lft k14_17
noncomputable def o14_18 : Array Oper := opsOf k14_18
noncomputable def p14_18_4 : Oper := opAt o14_18 4
noncomputable def p14_18_5 : Oper := opAt o14_18 5
noncomputable def p14_18_6 : Oper := opAt o14_18 6
noncomputable def p14_18_7 : Oper := opAt o14_18 7
noncomputable def p14_18_10 : Oper := opAt o14_18 10
noncomputable def p14_18_11 : Oper := opAt o14_18 11
noncomputable def p14_18_12 : Oper := opAt o14_18 12
noncomputable def p14_18_13 : Oper := opAt o14_18 13
noncomputable def p14_18_14 : Oper := opAt o14_18 14
noncomputable def k14_19 : Code := rgt k14_17
noncomputable def k14_20 : Code := lft k14_19
noncomputable def k14_21 : Code := lft k14_20
noncomputable def o14_21 : Array Oper := opsOf k14_21
noncomputable def k14_22 : Code := rgt k14_20
noncomputable def k14_23 : Code := rgt k14_19
noncomputable def k14_24 : Code := rgt k14_13
noncomputable def o14_24 : Array Oper := opsOf k14_24
noncomputable def k14_25 : Code := rgt k14_2
noncomputable def k14_26 : Code := lft k14_25
noncomputable def k14_27 : Code := lft k14_26
noncomputable def o14_27 : Array Oper := opsOf k14_27
noncomputable def k14_28 : Code := rgt k14_26
noncomputable def k14_29 : Code := lft k14_28
noncomputable def k14_30 : Code := lft k14_29
noncomputable def k14_31 : Code := lft k14_30
noncomputable def o14_31 : Array Oper := opsOf k14_31
noncomputable def k14_32 : Code := rgt k14_30
noncomputable def k14_33 : Code := lft k14_32
noncomputable def k14_34 : Code := lft k14_33
noncomputable def k14_35 : Code := rgt k14_33
noncomputable def k14_36 : Code := rgt k14_32
noncomputable def k14_37 : Code := lft k14_36
noncomputable def k14_38 : Code := lft k14_37
noncomputable def k14_39 : Code := lft k14_38
noncomputable def o14_39 : Array Oper := opsOf k14_39
noncomputable def k14_40 : Code := rgt k14_38
noncomputable def k14_41 : Code := lft k14_40
noncomputable def k14_42 : Code := lft k14_41
noncomputable def o14_42 : Array Oper := opsOf k14_42
noncomputable def p14_42_4 : Oper := opAt o14_42 4
noncomputable def p14_42_5 : Oper := opAt o14_42 5
noncomputable def p14_42_6 : Oper := opAt o14_42 6
noncomputable def p14_42_7 : Oper := opAt o14_42 7
noncomputable def p14_42_10 : Oper := opAt o14_42 10
noncomputable def p14_42_11 : Oper := opAt o14_42 11
noncomputable def p14_42_12 : Oper := opAt o14_42 12
noncomputable def p14_42_13 : Oper := opAt o14_42 13
noncomputable def p14_42_14 : Oper := opAt o14_42 14
noncomputable def p14_42_17 : Oper := opAt o14_42 17
noncomputable def p14_42_18 : Oper := opAt o14_42 18
noncomputable def p14_42_19 : Oper := opAt o14_42 19
noncomputable def p14_42_20 : Oper := opAt o14_42 20
noncomputable def p14_42_23 : Oper := opAt o14_42 23
noncomputable def p14_42_24 : Oper := opAt o14_42 24
noncomputable def p14_42_25 : Oper := opAt o14_42 25
noncomputable def p14_42_26 : Oper := opAt o14_42 26
noncomputable def k14_43 : Code := rgt k14_41
noncomputable def k14_44 : Code := lft k14_43
noncomputable def k14_45 : Code := lft k14_44
noncomputable def o14_45 : Array Oper := opsOf k14_45
noncomputable def k14_46 : Code := rgt k14_44
noncomputable def k14_47 : Code := rgt k14_43
noncomputable def k14_48 : Code := rgt k14_40
noncomputable def k14_49 : Code := lft k14_48
noncomputable def o14_49 : Array Oper := opsOf k14_49
noncomputable def p14_49_5 : Oper := opAt o14_49 5
noncomputable def p14_49_6 : Oper := opAt o14_49 6
noncomputable def p14_49_7 : Oper := opAt o14_49 7
noncomputable def p14_49_8 : Oper := opAt o14_49 8
noncomputable def p14_49_9 : Oper := opAt o14_49 9
noncomputable def k14_50 : Code := rgt k14_48
noncomputable def k14_51 : Code := lft k14_50
noncomputable def k14_52 : Code := lft k14_51
noncomputable def o14_52 : Array Oper := opsOf k14_52
noncomputable def k14_53 : Code := rgt k14_51
noncomputable def k14_54 : Code := rgt k14_50
noncomputable def k14_55 : Code := rgt k14_36
noncomputable def o14_55 : Array Oper := opsOf k14_55
noncomputable def k14_56 : Code := rgt k14_25
noncomputable def k14_57 : Code := lft k14_56
noncomputable def o14_57 : Array Oper := opsOf k14_57
noncomputable def k14_58 : Code := rgt k14_56
theorem c14s (I : Inv) (next stop : Cont) (k : List Item) (env : List V) (S : Mem) : (codeS I next stop k14_1 k env S = next (.inRegion o14_1 [0, 1, 2] :: k) env S) ∧
  (codeS I next stop k14_4 k env S = next (.inRegion o14_4 [0, 1, 2, 3] :: k) env S) ∧
  (codeS I next stop k14_8 k env S = next (.inRegion o14_8 [0] :: k) env S) ∧
  (codeS I next stop k14_11 k env S = next k env S) ∧
  (codeS I next stop k14_12 k env S = exitV next (exitTo 0 k) env S) ∧
  (codeS I next stop k14_10 k env S = condV next (evalV I env (.tmp 13)) k14_11 k14_12 k env S) ∧
  (codeS I next stop k14_16 k env S = next (.inRegion o14_16 [0, 1, 2, 3] :: k) env S) ∧
  (codeS I next stop k14_18 k env S = next (.inRegion o14_18 [0, 1, 2, 3, 4, 5, 6, 7, 8, 9, 10, 11, 12, 13, 14, 15] :: k) env S) ∧
  (codeS I next stop k14_21 k env S = next (.inRegion o14_21 [0] :: k) env S) ∧
  (codeS I next stop k14_22 k env S = stop (.code .ret :: k) env S) ∧
  (codeS I next stop k14_20 k env S = next (.code k14_21 :: .code k14_22 :: k) env S) ∧
  (codeS I next stop k14_23 k env S = next k env S) ∧
  (codeS I next stop k14_19 k env S = condV next (evalV I env (.tmp 31)) k14_20 k14_23 k env S) ∧
  (codeS I next stop k14_17 k env S = next (.code k14_18 :: .code k14_19 :: k) env S) ∧
  (codeS I next stop k14_15 k env S = next (.code k14_16 :: .code k14_17 :: k) env S) ∧
  (codeS I next stop k14_14 k env S = next (.code k14_15 :: .inBlock 1 :: k) env S) ∧
  (codeS I next stop k14_24 k env S = next (.inRegion o14_24 [0, 1] :: k) env S) ∧
  (codeS I next stop k14_13 k env S = next (.code k14_14 :: .code k14_24 :: k) env S) ∧
  (codeS I next stop k14_9 k env S = next (.code k14_10 :: .code k14_13 :: k) env S) ∧
  (codeS I next stop k14_7 k env S = next (.code k14_8 :: .code k14_9 :: k) env S) ∧
  (codeS I next stop k14_6 k env S = stop (.code (.loop k14_7) :: k) env S) ∧
  (codeS I next stop k14_5 k env S = next (.code k14_6 :: .inBlock 0 :: k) env S) ∧
  (codeS I next stop k14_3 k env S = next (.code k14_4 :: .code k14_5 :: k) env S) ∧
  (codeS I next stop k14_27 k env S = next (.inRegion o14_27 [0, 1, 2, 3] :: k) env S) ∧
  (codeS I next stop k14_31 k env S = next (.inRegion o14_31 [0] :: k) env S) ∧
  (codeS I next stop k14_34 k env S = next k env S) ∧
  (codeS I next stop k14_35 k env S = exitV next (exitTo 2 k) env S) ∧
  (codeS I next stop k14_33 k env S = condV next (evalV I env (.tmp 37)) k14_34 k14_35 k env S) ∧
  (codeS I next stop k14_39 k env S = next (.inRegion o14_39 [0, 1, 2, 3] :: k) env S) ∧
  (codeS I next stop k14_42 k env S = next (.inRegion o14_42 [0, 1, 2, 3, 4, 5, 6, 7, 8, 9, 10, 11, 12, 13, 14, 15, 16, 17, 18, 19, 20, 21, 22, 23, 24, 25, 26, 27] :: k) env S) ∧
  (codeS I next stop k14_45 k env S = next (.inRegion o14_45 [0] :: k) env S) ∧
  (codeS I next stop k14_46 k env S = stop (.code .ret :: k) env S) ∧
  (codeS I next stop k14_44 k env S = next (.code k14_45 :: .code k14_46 :: k) env S) ∧
  (codeS I next stop k14_47 k env S = next k env S) ∧
  (codeS I next stop k14_43 k env S = condV next (evalV I env (.tmp 67)) k14_44 k14_47 k env S) ∧
  (codeS I next stop k14_41 k env S = next (.code k14_42 :: .code k14_43 :: k) env S) ∧
  (codeS I next stop k14_49 k env S = next (.inRegion o14_49 [0, 1, 2, 3, 4, 5, 6, 7, 8, 9, 10] :: k) env S) ∧
  (codeS I next stop k14_52 k env S = next (.inRegion o14_52 [0] :: k) env S) ∧
  (codeS I next stop k14_53 k env S = stop (.code .ret :: k) env S) ∧
  (codeS I next stop k14_51 k env S = next (.code k14_52 :: .code k14_53 :: k) env S) ∧
  (codeS I next stop k14_54 k env S = next k env S) ∧
  (codeS I next stop k14_50 k env S = condV next (evalV I env (.tmp 78)) k14_51 k14_54 k env S) ∧
  (codeS I next stop k14_48 k env S = next (.code k14_49 :: .code k14_50 :: k) env S) ∧
  (codeS I next stop k14_40 k env S = next (.code k14_41 :: .code k14_48 :: k) env S) ∧
  (codeS I next stop k14_38 k env S = next (.code k14_39 :: .code k14_40 :: k) env S) ∧
  (codeS I next stop k14_37 k env S = next (.code k14_38 :: .inBlock 3 :: k) env S) ∧
  (codeS I next stop k14_55 k env S = next (.inRegion o14_55 [0, 1] :: k) env S) ∧
  (codeS I next stop k14_36 k env S = next (.code k14_37 :: .code k14_55 :: k) env S) ∧
  (codeS I next stop k14_32 k env S = next (.code k14_33 :: .code k14_36 :: k) env S) ∧
  (codeS I next stop k14_30 k env S = next (.code k14_31 :: .code k14_32 :: k) env S) ∧
  (codeS I next stop k14_29 k env S = stop (.code (.loop k14_30) :: k) env S) ∧
  (codeS I next stop k14_28 k env S = next (.code k14_29 :: .inBlock 2 :: k) env S) ∧
  (codeS I next stop k14_26 k env S = next (.code k14_27 :: .code k14_28 :: k) env S) ∧
  (codeS I next stop k14_57 k env S = next (.inRegion o14_57 [0] :: k) env S) ∧
  (codeS I next stop k14_58 k env S = stop (.code .ret :: k) env S) ∧
  (codeS I next stop k14_56 k env S = next (.code k14_57 :: .code k14_58 :: k) env S) ∧
  (codeS I next stop k14_25 k env S = next (.code k14_26 :: .code k14_56 :: k) env S) ∧
  (codeS I next stop k14_2 k env S = next (.code k14_3 :: .code k14_25 :: k) env S) ∧
  (codeS I next stop k14_0 k env S = next (.code k14_1 :: .code k14_2 :: k) env S) := by
  repeat' apply And.intro
  all_goals kernel_rfl
theorem c14r (P : Program) (I : Inv) (next stop : Cont) (rest : List Nat) (k : List Item) (env : List V) (S : Mem) : (regS P I next stop o14_1 0 rest k env S = bindS next (op1 P (evalV I env) S (.box 44 (.tmp 0))) (.inRegion o14_1 rest :: k) (some 2) env) ∧
  (regS P I next stop o14_1 1 rest k env S = bindS next (op1 P (evalV I env) S (.box 25 (.tmp 1))) (.inRegion o14_1 rest :: k) (some 3) env) ∧
  (regS P I next stop o14_1 2 rest k env S = bindS next (op1 P (evalV I env) S (.assign (.const (.bool false)))) (.inRegion o14_1 rest :: k) (some 4) env) ∧
  (regS P I next stop o14_4 0 rest k env S = bindS next (op1 P (evalV I env) S (.fieldAddr 25 (.tmp 3) 0)) (.inRegion o14_4 rest :: k) (some 9) env) ∧
  (regS P I next stop o14_4 1 rest k env S = bindS next (op1 P (evalV I env) S (.load 22 (.tmp 9))) (.inRegion o14_4 rest :: k) (some 10) env) ∧
  (regS P I next stop o14_4 2 rest k env S = bindS next (opCall P (evalV I env) S { callee := .builtin .len, args := #[.tmp 10], argTypes := #[22] }) (.inRegion o14_4 rest :: k) (some 11) env) ∧
  (regS P I next stop o14_4 3 rest k env S = bindS next (op1 P (evalV I env) S (.move (.const (.int .i64 0)))) (.inRegion o14_4 rest :: k) (some 12) env) ∧
  (regS P I next stop o14_8 0 rest k env S = bindS next (op1 P (evalV I env) S (.binOp .lss 3 (.tmp 12) (.tmp 11) 3)) (.inRegion o14_8 rest :: k) (some 13) env) ∧
  (regS P I next stop o14_16 0 rest k env S = bindS next (op1 P (evalV I env) S (.indexAddr 22 (.tmp 10) (.tmp 12))) (.inRegion o14_16 rest :: k) (some 14) env) ∧
  (regS P I next stop o14_16 1 rest k env S = bindS next (op1 P (evalV I env) S (.load 52 (.tmp 14))) (.inRegion o14_16 rest :: k) (some 15) env) ∧
  (regS P I next stop o14_16 2 rest k env S = bindS next (op1 P (evalV I env) S (.alloc 52)) (.inRegion o14_16 rest :: k) (some 6) env) ∧
  (regS P I next stop o14_16 3 rest k env S = bindS next (op1 P (evalV I env) S (.store 52 (.tmp 6) (.tmp 15))) (.inRegion o14_16 rest :: k) none env) ∧
  (regS P I next stop o14_18 0 rest k env S = bindS next (op1 P (evalV I env) S (.load 44 (.tmp 2))) (.inRegion o14_18 rest :: k) (some 16) env) ∧
  (regS P I next stop o14_18 1 rest k env S = callS P I stop (evalV I env (.func 35)) [evalV I env (.tmp 16), evalV I env (.const (.int .i64 0))] (.inRegion o14_18 rest :: k) (some 17) env S) ∧
  (regS P I next stop o14_18 2 rest k env S = bindS next (op1 P (evalV I env) S (.unOp .not 4 (.tmp 17))) (.inRegion o14_18 rest :: k) (some 18) env) ∧
  (regS P I next stop o14_18 3 rest k env S = bindS next (op1 P (evalV I env) S (.move (.tmp 18))) (.inRegion o14_18 rest :: k) (some 19) env) ∧
  (regS P I next stop o14_18 4 rest k env S = guardS P I next stop (env.getD 19 .undef) false o14_18 rest p14_18_4 k env S) ∧
  (doOp P I next stop o14_18 rest p14_18_4 k env S = bindS next (op1 P (evalV I env) S (.fieldAddr 52 (.tmp 6) 0)) (.inRegion o14_18 rest :: k) (some 20) env) ∧
  (regS P I next stop o14_18 5 rest k env S = guardS P I next stop (env.getD 19 .undef) false o14_18 rest p14_18_5 k env S) ∧
  (doOp P I next stop o14_18 rest p14_18_5 k env S = bindS next (op1 P (evalV I env) S (.load 9 (.tmp 20))) (.inRegion o14_18 rest :: k) (some 21) env) ∧
  (regS P I next stop o14_18 6 rest k env S = guardS P I next stop (env.getD 19 .undef) false o14_18 rest p14_18_6 k env S) ∧
  (doOp P I next stop o14_18 rest p14_18_6 k env S = callS P I stop (evalV I env (.func 11)) [evalV I env (.tmp 21)] (.inRegion o14_18 rest :: k) (some 22) env S) ∧
  (regS P I next stop o14_18 7 rest k env S = guardS P I next stop (env.getD 19 .undef) false o14_18 rest p14_18_7 k env S) ∧
  (doOp P I next stop o14_18 rest p14_18_7 k env S = bindS next (op1 P (evalV I env) S (.unOp .not 4 (.tmp 22))) (.inRegion o14_18 rest :: k) (some 23) env) ∧
  (regS P I next stop o14_18 8 rest k env S = bindS next (op1 P (evalV I env) S (.pick (.tmp 19) (.const (.bool true)) (.tmp 23))) (.inRegion o14_18 rest :: k) (some 24) env) ∧
  (regS P I next stop o14_18 9 rest k env S = bindS next (op1 P (evalV I env) S (.move (.tmp 24))) (.inRegion o14_18 rest :: k) (some 25) env) ∧
  (regS P I next stop o14_18 10 rest k env S = guardS P I next stop (env.getD 25 .undef) false o14_18 rest p14_18_10 k env S) ∧
  (doOp P I next stop o14_18 rest p14_18_10 k env S = bindS next (op1 P (evalV I env) S (.load 44 (.tmp 2))) (.inRegion o14_18 rest :: k) (some 26) env) ∧
  (regS P I next stop o14_18 11 rest k env S = guardS P I next stop (env.getD 25 .undef) false o14_18 rest p14_18_11 k env S) ∧
  (doOp P I next stop o14_18 rest p14_18_11 k env S = bindS next (op1 P (evalV I env) S (.fieldAddr 52 (.tmp 6) 1)) (.inRegion o14_18 rest :: k) (some 27) env) ∧
  (regS P I next stop o14_18 12 rest k env S = guardS P I next stop (env.getD 25 .undef) false o14_18 rest p14_18_12 k env S) ∧
  (doOp P I next stop o14_18 rest p14_18_12 k env S = bindS next (op1 P (evalV I env) S (.load 50 (.tmp 27))) (.inRegion o14_18 rest :: k) (some 28) env) ∧
  (regS P I next stop o14_18 13 rest k env S = guardS P I next stop (env.getD 25 .undef) false o14_18 rest p14_18_13 k env S) ∧
  (doOp P I next stop o14_18 rest p14_18_13 k env S = callS P I stop (evalV I env (.func 36)) [evalV I env (.tmp 26), evalV I env (.tmp 28), evalV I env (.const (.int .i64 60))] (.inRegion o14_18 rest :: k) (some 29) env S) ∧
  (regS P I next stop o14_18 14 rest k env S = guardS P I next stop (env.getD 25 .undef) false o14_18 rest p14_18_14 k env S) ∧
  (doOp P I next stop o14_18 rest p14_18_14 k env S = bindS next (op1 P (evalV I env) S (.unOp .not 4 (.tmp 29))) (.inRegion o14_18 rest :: k) (some 30) env) ∧
  (regS P I next stop o14_18 15 rest k env S = bindS next (op1 P (evalV I env) S (.pick (.tmp 25) (.const (.bool true)) (.tmp 30))) (.inRegion o14_18 rest :: k) (some 31) env) ∧
  (regS P I next stop o14_21 0 rest k env S = bindS next (op1 P (evalV I env) S (.assign (.const (.bool false)))) (.inRegion o14_21 rest :: k) (some 4) env) ∧
  (regS P I next stop o14_24 0 rest k env S = bindS next (op1 P (evalV I env) S (.binOp .add 3 (.tmp 12) (.const (.int .i64 1)) 3)) (.inRegion o14_24 rest :: k) (some 32) env) ∧
  (regS P I next stop o14_24 1 rest k env S = bindS next (op1 P (evalV I env) S (.move (.tmp 32))) (.inRegion o14_24 rest :: k) (some 12) env) ∧
  (regS P I next stop o14_27 0 rest k env S = bindS next (op1 P (evalV I env) S (.fieldAddr 25 (.tmp 3) 1)) (.inRegion o14_27 rest :: k) (some 33) env) ∧
  (regS P I next stop o14_27 1 rest k env S = bindS next (op1 P (evalV I env) S (.load 23 (.tmp 33))) (.inRegion o14_27 rest :: k) (some 34) env) ∧
  (regS P I next stop o14_27 2 rest k env S = bindS next (opCall P (evalV I env) S { callee := .builtin .len, args := #[.tmp 34], argTypes := #[23] }) (.inRegion o14_27 rest :: k) (some 35) env) ∧
  (regS P I next stop o14_27 3 rest k env S = bindS next (op1 P (evalV I env) S (.move (.const (.int .i64 0)))) (.inRegion o14_27 rest :: k) (some 36) env) ∧
  (regS P I next stop o14_31 0 rest k env S = bindS next (op1 P (evalV I env) S (.binOp .lss 3 (.tmp 36) (.tmp 35) 3)) (.inRegion o14_31 rest :: k) (some 37) env) ∧
  (regS P I next stop o14_39 0 rest k env S = bindS next (op1 P (evalV I env) S (.indexAddr 23 (.tmp 34) (.tmp 36))) (.inRegion o14_39 rest :: k) (some 38) env) ∧
  (regS P I next stop o14_39 1 rest k env S = bindS next (op1 P (evalV I env) S (.load 56 (.tmp 38))) (.inRegion o14_39 rest :: k) (some 39) env) ∧
  (regS P I next stop o14_39 2 rest k env S = bindS next (op1 P (evalV I env) S (.alloc 56)) (.inRegion o14_39 rest :: k) (some 8) env) ∧
  (regS P I next stop o14_39 3 rest k env S = bindS next (op1 P (evalV I env) S (.store 56 (.tmp 8) (.tmp 39))) (.inRegion o14_39 rest :: k) none env) ∧
  (regS P I next stop o14_42 0 rest k env S = bindS next (op1 P (evalV I env) S (.load 44 (.tmp 2))) (.inRegion o14_42 rest :: k) (some 40) env) ∧
  (regS P I next stop o14_42 1 rest k env S = callS P I stop (evalV I env (.func 35)) [evalV I env (.tmp 40), evalV I env (.const (.int .i64 0))] (.inRegion o14_42 rest :: k) (some 41) env S) ∧
  (regS P I next stop o14_42 2 rest k env S = bindS next (op1 P (evalV I env) S (.unOp .not 4 (.tmp 41))) (.inRegion o14_42 rest :: k) (some 42) env) ∧
  (regS P I next stop o14_42 3 rest k env S = bindS next (op1 P (evalV I env) S (.move (.tmp 42))) (.inRegion o14_42 rest :: k) (some 43) env) ∧
  (regS P I next stop o14_42 4 rest k env S = guardS P I next stop (env.getD 43 .undef) false o14_42 rest p14_42_4 k env S) ∧
  (doOp P I next stop o14_42 rest p14_42_4 k env S = bindS next (op1 P (evalV I env) S (.fieldAddr 56 (.tmp 8) 0)) (.inRegion o14_42 rest :: k) (some 44) env) ∧
  (regS P I next stop o14_42 5 rest k env S = guardS P I next stop (env.getD 43 .undef) false o14_42 rest p14_42_5 k env S) ∧
  (doOp P I next stop o14_42 rest p14_42_5 k env S = bindS next (op1 P (evalV I env) S (.load 9 (.tmp 44))) (.inRegion o14_42 rest :: k) (some 45) env) ∧
  (regS P I next stop o14_42 6 rest k env S = guardS P I next stop (env.getD 43 .undef) false o14_42 rest p14_42_6 k env S) ∧
  (doOp P I next stop o14_42 rest p14_42_6 k env S = callS P I stop (evalV I env (.func 11)) [evalV I env (.tmp 45)] (.inRegion o14_42 rest :: k) (some 46) env S) ∧
  (regS P I next stop o14_42 7 rest k env S = guardS P I next stop (env.getD 43 .undef) false o14_42 rest p14_42_7 k env S) ∧
  (doOp P I next stop o14_42 rest p14_42_7 k env S = bindS next (op1 P (evalV I env) S (.unOp .not 4 (.tmp 46))) (.inRegion o14_42 rest :: k) (some 47) env) ∧
  (regS P I next stop o14_42 8 rest k env S = bindS next (op1 P (evalV I env) S (.pick (.tmp 43) (.const (.bool true)) (.tmp 47))) (.inRegion o14_42 rest :: k) (some 48) env) ∧
  (regS P I next stop o14_42 9 rest k env S = bindS next (op1 P (evalV I env) S (.move (.tmp 48))) (.inRegion o14_42 rest :: k) (some 49) env) ∧
  (regS P I next stop o14_42 10 rest k env S = guardS P I next stop (env.getD 49 .undef) false o14_42 rest p14_42_10 k env S) ∧
  (doOp P I next stop o14_42 rest p14_42_10 k env S = bindS next (op1 P (evalV I env) S (.load 44 (.tmp 2))) (.inRegion o14_42 rest :: k) (some 50) env) ∧
  (regS P I next stop o14_42 11 rest k env S = guardS P I next stop (env.getD 49 .undef) false o14_42 rest p14_42_11 k env S) ∧
  (doOp P I next stop o14_42 rest p14_42_11 k env S = bindS next (op1 P (evalV I env) S (.fieldAddr 56 (.tmp 8) 1)) (.inRegion o14_42 rest :: k) (some 51) env) ∧
  (regS P I next stop o14_42 12 rest k env S = guardS P I next stop (env.getD 49 .undef) false o14_42 rest p14_42_12 k env S) ∧
  (doOp P I next stop o14_42 rest p14_42_12 k env S = bindS next (op1 P (evalV I env) S (.load 50 (.tmp 51))) (.inRegion o14_42 rest :: k) (some 52) env) ∧
  (regS P I next stop o14_42 13 rest k env S = guardS P I next stop (env.getD 49 .undef) false o14_42 rest p14_42_13 k env S) ∧
  (doOp P I next stop o14_42 rest p14_42_13 k env S = callS P I stop (evalV I env (.func 36)) [evalV I env (.tmp 50), evalV I env (.tmp 52), evalV I env (.const (.int .i64 20))] (.inRegion o14_42 rest :: k) (some 53) env S) ∧
  (regS P I next stop o14_42 14 rest k env S = guardS P I next stop (env.getD 49 .undef) false o14_42 rest p14_42_14 k env S) ∧
  (doOp P I next stop o14_42 rest p14_42_14 k env S = bindS next (op1 P (evalV I env) S (.unOp .not 4 (.tmp 53))) (.inRegion o14_42 rest :: k) (some 54) env) ∧
  (regS P I next stop o14_42 15 rest k env S = bindS next (op1 P (evalV I env) S (.pick (.tmp 49) (.const (.bool true)) (.tmp 54))) (.inRegion o14_42 rest :: k) (some 55) env) ∧
  (regS P I next stop o14_42 16 rest k env S = bindS next (op1 P (evalV I env) S (.move (.tmp 55))) (.inRegion o14_42 rest :: k) (some 56) env) ∧
  (regS P I next stop o14_42 17 rest k env S = guardS P I next stop (env.getD 56 .undef) false o14_42 rest p14_42_17 k env S) ∧
  (doOp P I next stop o14_42 rest p14_42_17 k env S = bindS next (op1 P (evalV I env) S (.fieldAddr 56 (.tmp 8) 2)) (.inRegion o14_42 rest :: k) (some 57) env) ∧
  (regS P I next stop o14_42 18 rest k env S = guardS P I next stop (env.getD 56 .undef) false o14_42 rest p14_42_18 k env S) ∧
  (doOp P I next stop o14_42 rest p14_42_18 k env S = bindS next (op1 P (evalV I env) S (.load 32 (.tmp 57))) (.inRegion o14_42 rest :: k) (some 58) env) ∧
  (regS P I next stop o14_42 19 rest k env S = guardS P I next stop (env.getD 56 .undef) false o14_42 rest p14_42_19 k env S) ∧
  (doOp P I next stop o14_42 rest p14_42_19 k env S = bindS next (opCall P (evalV I env) S { callee := .builtin .len, args := #[.tmp 58], argTypes := #[32] }) (.inRegion o14_42 rest :: k) (some 59) env) ∧
  (regS P I next stop o14_42 20 rest k env S = guardS P I next stop (env.getD 56 .undef) false o14_42 rest p14_42_20 k env S) ∧
  (doOp P I next stop o14_42 rest p14_42_20 k env S = bindS next (op1 P (evalV I env) S (.binOp .lss 3 (.tmp 59) (.const (.int .i64 1)) 3)) (.inRegion o14_42 rest :: k) (some 60) env) ∧
  (regS P I next stop o14_42 21 rest k env S = bindS next (op1 P (evalV I env) S (.pick (.tmp 56) (.const (.bool true)) (.tmp 60))) (.inRegion o14_42 rest :: k) (some 61) env) ∧
  (regS P I next stop o14_42 22 rest k env S = bindS next (op1 P (evalV I env) S (.move (.tmp 61))) (.inRegion o14_42 rest :: k) (some 62) env) ∧
  (regS P I next stop o14_42 23 rest k env S = guardS P I next stop (env.getD 62 .undef) false o14_42 rest p14_42_23 k env S) ∧
  (doOp P I next stop o14_42 rest p14_42_23 k env S = bindS next (op1 P (evalV I env) S (.fieldAddr 56 (.tmp 8) 2)) (.inRegion o14_42 rest :: k) (some 63) env) ∧
  (regS P I next stop o14_42 24 rest k env S = guardS P I next stop (env.getD 62 .undef) false o14_42 rest p14_42_24 k env S) ∧
  (doOp P I next stop o14_42 rest p14_42_24 k env S = bindS next (op1 P (evalV I env) S (.load 32 (.tmp 63))) (.inRegion o14_42 rest :: k) (some 64) env) ∧
  (regS P I next stop o14_42 25 rest k env S = guardS P I next stop (env.getD 62 .undef) false o14_42 rest p14_42_25 k env S) ∧
  (doOp P I next stop o14_42 rest p14_42_25 k env S = bindS next (opCall P (evalV I env) S { callee := .builtin .len, args := #[.tmp 64], argTypes := #[32] }) (.inRegion o14_42 rest :: k) (some 65) env) ∧
  (regS P I next stop o14_42 26 rest k env S = guardS P I next stop (env.getD 62 .undef) false o14_42 rest p14_42_26 k env S) ∧
  (doOp P I next stop o14_42 rest p14_42_26 k env S = bindS next (op1 P (evalV I env) S (.binOp .gtr 3 (.tmp 65) (.const (.int .i64 20)) 3)) (.inRegion o14_42 rest :: k) (some 66) env) ∧
  (regS P I next stop o14_42 27 rest k env S = bindS next (op1 P (evalV I env) S (.pick (.tmp 62) (.const (.bool true)) (.tmp 66))) (.inRegion o14_42 rest :: k) (some 67) env) ∧
  (regS P I next stop o14_45 0 rest k env S = bindS next (op1 P (evalV I env) S (.assign (.const (.bool false)))) (.inRegion o14_45 rest :: k) (some 4) env) ∧
  (regS P I next stop o14_49 0 rest k env S = bindS next (op1 P (evalV I env) S (.fieldAddr 56 (.tmp 8) 2)) (.inRegion o14_49 rest :: k) (some 68) env) ∧
  (regS P I next stop o14_49 1 rest k env S = bindS next (op1 P (evalV I env) S (.load 32 (.tmp 68))) (.inRegion o14_49 rest :: k) (some 69) env) ∧
  (regS P I next stop o14_49 2 rest k env S = bindS next (op1 P (evalV I env) S (.makeFunc (.func 38) #[] #[.tmp 2])) (.inRegion o14_49 rest :: k) (some 70) env) ∧
  (regS P I next stop o14_49 3 rest k env S = callS P I stop (evalV I env (.func 37)) [evalV I env (.tmp 69), evalV I env (.tmp 70)] (.inRegion o14_49 rest :: k) (some 71) env S) ∧
  (regS P I next stop o14_49 4 rest k env S = bindS next (op1 P (evalV I env) S (.move (.tmp 71))) (.inRegion o14_49 rest :: k) (some 72) env) ∧
  (regS P I next stop o14_49 5 rest k env S = guardS P I next stop (env.getD 72 .undef) false o14_49 rest p14_49_5 k env S) ∧
  (doOp P I next stop o14_49 rest p14_49_5 k env S = bindS next (op1 P (evalV I env) S (.load 44 (.tmp 2))) (.inRegion o14_49 rest :: k) (some 73) env) ∧
  (regS P I next stop o14_49 6 rest k env S = guardS P I next stop (env.getD 72 .undef) false o14_49 rest p14_49_6 k env S) ∧
  (doOp P I next stop o14_49 rest p14_49_6 k env S = bindS next (op1 P (evalV I env) S (.fieldAddr 56 (.tmp 8) 3)) (.inRegion o14_49 rest :: k) (some 74) env) ∧
  (regS P I next stop o14_49 7 rest k env S = guardS P I next stop (env.getD 72 .undef) false o14_49 rest p14_49_7 k env S) ∧
  (doOp P I next stop o14_49 rest p14_49_7 k env S = bindS next (op1 P (evalV I env) S (.load 54 (.tmp 74))) (.inRegion o14_49 rest :: k) (some 75) env) ∧
  (regS P I next stop o14_49 8 rest k env S = guardS P I next stop (env.getD 72 .undef) false o14_49 rest p14_49_8 k env S) ∧
  (doOp P I next stop o14_49 rest p14_49_8 k env S = callS P I stop (evalV I env (.func 40)) [evalV I env (.tmp 73), evalV I env (.tmp 75), evalV I env (.const (.int .i64 0))] (.inRegion o14_49 rest :: k) (some 76) env S) ∧
  (regS P I next stop o14_49 9 rest k env S = guardS P I next stop (env.getD 72 .undef) false o14_49 rest p14_49_9 k env S) ∧
  (doOp P I next stop o14_49 rest p14_49_9 k env S = bindS next (op1 P (evalV I env) S (.unOp .not 4 (.tmp 76))) (.inRegion o14_49 rest :: k) (some 77) env) ∧
  (regS P I next stop o14_49 10 rest k env S = bindS next (op1 P (evalV I env) S (.pick (.tmp 72) (.const (.bool true)) (.tmp 77))) (.inRegion o14_49 rest :: k) (some 78) env) ∧
  (regS P I next stop o14_52 0 rest k env S = bindS next (op1 P (evalV I env) S (.assign (.const (.bool false)))) (.inRegion o14_52 rest :: k) (some 4) env) ∧
  (regS P I next stop o14_55 0 rest k env S = bindS next (op1 P (evalV I env) S (.binOp .add 3 (.tmp 36) (.const (.int .i64 1)) 3)) (.inRegion o14_55 rest :: k) (some 79) env) ∧
  (regS P I next stop o14_55 1 rest k env S = bindS next (op1 P (evalV I env) S (.move (.tmp 79))) (.inRegion o14_55 rest :: k) (some 36) env) ∧
  (regS P I next stop o14_57 0 rest k env S = bindS next (op1 P (evalV I env) S (.assign (.const (.bool true)))) (.inRegion o14_57 rest :: k) (some 4) env) := by
  repeat' apply And.intro
  all_goals kernel_rfl
theorem c14t  : (p14_18_4.dst = (some 20)) ∧
  (p14_18_5.dst = (some 21)) ∧
  (p14_18_6.dst = (some 22)) ∧
  (p14_18_7.dst = (some 23)) ∧
  (p14_18_10.dst = (some 26)) ∧
  (p14_18_11.dst = (some 27)) ∧
  (p14_18_12.dst = (some 28)) ∧
  (p14_18_13.dst = (some 29)) ∧
  (p14_18_14.dst = (some 30)) ∧
  (p14_42_4.dst = (some 44)) ∧
  (p14_42_5.dst = (some 45)) ∧
  (p14_42_6.dst = (some 46)) ∧
  (p14_42_7.dst = (some 47)) ∧
  (p14_42_10.dst = (some 50)) ∧
  (p14_42_11.dst = (some 51)) ∧
  (p14_42_12.dst = (some 52)) ∧
  (p14_42_13.dst = (some 53)) ∧
  (p14_42_14.dst = (some 54)) ∧
  (p14_42_17.dst = (some 57)) ∧
  (p14_42_18.dst = (some 58)) ∧
  (p14_42_19.dst = (some 59)) ∧
  (p14_42_20.dst = (some 60)) ∧
  (p14_42_23.dst = (some 63)) ∧
  (p14_42_24.dst = (some 64)) ∧
  (p14_42_25.dst = (some 65)) ∧
  (p14_42_26.dst = (some 66)) ∧
  (p14_49_5.dst = (some 73)) ∧
  (p14_49_6.dst = (some 74)) ∧
  (p14_49_7.dst = (some 75)) ∧
  (p14_49_8.dst = (some 76)) ∧
  (p14_49_9.dst = (some 77)) := by
  repeat' apply And.intro
  all_goals kernel_rfl
set_option linter.defProp false in
/-- All of these. -/
def c14 := And.intro @c14s ( And.intro @c14r (@c14t))
noncomputable def k6_0 : Code := bodyOf Tryd.f6
noncomputable def k6_1 : Code := lft k6_0
noncomputable def o6_1 : Array Oper := opsOf k6_1
noncomputable def k6_2 : Code := rgt k6_0
noncomputable def k6_3 : Code := lft k6_2
noncomputable def o6_3 : Array Oper := opsOf k6_3
noncomputable def k6_4 : Code := rgt k6_2
theorem c6s (I : Inv) (next stop : Cont) (k : List Item) (env : List V) (S : Mem) : (codeS I next stop k6_1 k env S = next (.inRegion o6_1 [0, 1] :: k) env S) ∧
  (codeS I next stop k6_3 k env S = next (.inRegion o6_3 [0, 1, 2, 3] :: k) env S) ∧
  (codeS I next stop k6_4 k env S = stop (.code .ret :: k) env S) ∧
  (codeS I next stop k6_2 k env S = next (.code k6_3 :: .code k6_4 :: k) env S) ∧
  (codeS I next stop k6_0 k env S = next (.code k6_1 :: .code k6_2 :: k) env S) := by
  repeat' apply And.intro
  all_goals kernel_rfl
theorem c6r (P : Program) (I : Inv) (next stop : Cont) (rest : List Nat) (k : List Item) (env : List V) (S : Mem) : (regS P I next stop o6_1 0 rest k env S = bindS next (op1 P (evalV I env) S (.box 25 (.tmp 0))) (.inRegion o6_1 rest :: k) (some 1) env) ∧
  (regS P I next stop o6_1 1 rest k env S = bindS next (op1 P (evalV I env) S (.assign (.const (.bool false)))) (.inRegion o6_1 rest :: k) (some 2) env) ∧
  (regS P I next stop o6_3 0 rest k env S = bindS next (op1 P (evalV I env) S (.alloc 46)) (.inRegion o6_3 rest :: k) (some 3) env) ∧
  (regS P I next stop o6_3 1 rest k env S = bindS next (op1 P (evalV I env) S (.load 25 (.tmp 1))) (.inRegion o6_3 rest :: k) (some 4) env) ∧
  (regS P I next stop o6_3 2 rest k env S = callS P I stop (evalV I env (.func 14)) [evalV I env (.tmp 3), evalV I env (.tmp 4)] (.inRegion o6_3 rest :: k) (some 5) env S) ∧
  (regS P I next stop o6_3 3 rest k env S = bindS next (op1 P (evalV I env) S (.assign (.tmp 5))) (.inRegion o6_3 rest :: k) (some 2) env) := by
  repeat' apply And.intro
  all_goals kernel_rfl
set_option linter.defProp false in
/-- All of these. -/
def c6 := And.intro @c6s (@c6r)

set_option maxHeartbeats 1000000 in
theorem prog1_ab (x : TyT) (a c : Nat) (p : Int) (B : List (List V)) (T : List (Nat × Nat)) (hB : B[c]? = some [.d (.int .i64 p)]) (ha : B[a]? = some [.ptr c 0]) (hp : 0 ≤ p ∧ p ≤ 60000) :
    AFn Tryd.prog TabI 38 [tyV x, .ptr a 0] ⟨B, T⟩ (Same (.d (.bool (!(tyS identS x 0 p).1))) ⟨B.set c [.d (.int .i64 (tyS identS x 0 p).2)], T⟩) := by
  obtain ⟨N, hn⟩ : ∃ N, B.length = N := ⟨_, rfl⟩
  have hc := (List.getElem?_eq_some_iff.1 hB).1
  have hi : c < N := by omega
  have hia : a < N := by have := (List.getElem?_eq_some_iff.1 ha).1; omega
  have h := typ_ab x c 0 p (B ++ [[.d (.int .i64 x.kind), .d (.str x.name), .d (.sl (x.elem.map tyD))]]) T (by rw [bx_old hc]; exact hB) hp (by omega)
  unfold tyV at h ⊢
  refine AFn.bodyE (body := k38_0) 8 Tryd.func38 (by kernel_rfl) (by kernel_rfl) (by kernel_rfl) (Nat.le_of_ble_eq_true rfl) fun hsm => ?_
  simp only [smL, sm, exV, stV, tyV, caV, paV, suV, fuV, prV, Bool.and_eq_true, decide_eq_true_eq, and_true, true_and, List.length_map, ssD_length] at hsm
  refine ARun.go 100 ?_
  simp -implicitDefEqProofs only [awC, awN, Nat.reduceAdd, Nat.reduceSub, Nat.reduceLT, Nat.reduceLeDiff, Nat.reduceEqDiff, Int.reduceToNat, Int.reduceEq, Int.reduceLT, Int.reduceLE, Int.reduceNeg, Int.reduceAdd, Int.reduceSub, Nat.reduceBEq, awT, c38, tys, hn, hi, hia, ha]
  refine callS_fn (h) ?_
  rintro _ _ ⟨rfl, rfl⟩
  refine ARun.go 100 ?_
  simp -implicitDefEqProofs only [awC, awN, Nat.reduceAdd, Nat.reduceSub, Nat.reduceLT, Nat.reduceLeDiff, Nat.reduceEqDiff, Int.reduceToNat, Int.reduceEq, Int.reduceLT, Int.reduceLE, Int.reduceNeg, Int.reduceAdd, Int.reduceSub, Nat.reduceBEq, awT, c38, tys, hn, hi, hia, ha]
  refine ARun.ret Tryd.func38 rfl (Left.set (by rfl) ?_)
  (try clear ih)
  (try simp only [decide_eq_true_eq, decide_eq_false_iff_not, Bool.not_eq_true', Bool.not_eq_false'] at *)
  simp only [wk, Same, List.getD_cons_zero, List.getD_cons_succ, envS_get, envS_eval, lk_cons, lk_nil, Nat.reduceBEq, Nat.reduceAdd, Nat.reduceSub, cond_true, cond_false]
  simp [*]
  skip
theorem ty_good (a c : Nat) (B X : List (List V)) (T : List (Nat × Nat)) (hc : c < B.length) (ha : ∀ q : Int, (B.set c [.d (.int .i64 q)] ++ X)[a]? = some [.ptr c 0]) :
    ∀ (l : List TyT) (q : Int), 0 ≤ q ∧ q ≤ 60000 → Good Tryd.prog TabI 38 [] [.ptr a 0] tyV (fun q : Int => ⟨B.set c [.d (.int .i64 q)] ++ X, T⟩) (fun x q => (!(tyS identS x 0 q).1, (tyS identS x 0 q).2)) l q
  | [], _, _ => trivial
  | x :: l, q, hq => by
    have hcx : c < (B.set c [.d (.int .i64 q)]).length := by simpa using hc
    refine ⟨?_, fun h => ?_⟩
    · have := prog1_ab x a c q (B.set c [.d (.int .i64 q)] ++ X) T (by rw [bx_old hcx]; exact bx_get hc) (ha q) hq
      rw [bx_set_old hcx, List.set_set] at this
      exact this
    · have h : (tyS identS x 0 q).1 = true := by simpa using h
      have h1 := tyS_ok identS x 0 q h
      exact ty_good a c B X T hc ha l _ ⟨Int.le_trans hq.1 (by dsimp only; omega), h1.2⟩
end Go.Proofs.YtombghldgdcjcaaDoor

/- The checker: a program. -/
namespace Go.Proofs.YtombghldgdcjcaaDoor
open Go.RowKit Go.Av Go.Ab
set_option linter.unusedSimpArgs false
set_option maxRecDepth 100000

theorem app3 {α : Type} (A : List α) (a b c : α) : A ++ [a, b, c] = (A ++ [a, b]) ++ [c] := by simp
set_option maxHeartbeats 4000000 in
theorem prog_ab (n : Nat) (pr : PrT) (hst : ∀ f ∈ pr.funcs, ∀ x ∈ f.body, StmtOk n x) (c : Nat) (p : Int) (B : List (List V)) (T : List (Nat × Nat)) (hB : B[c]? = some [.d (.int .i64 p)]) (hp : 0 ≤ p ∧ p ≤ 60000) :
    AFn Tryd.prog TabI 14 [.ptr c 0, prV pr] ⟨B, T⟩ (Same (.d (.bool (prS n pr p).1)) ⟨B.set c [.d (.int .i64 (prS n pr p).2)], T⟩) := by
  obtain ⟨N, hn⟩ : ∃ N, B.length = N := ⟨_, rfl⟩
  have hc := (List.getElem?_eq_some_iff.1 hB).1
  have hi : c < N := by omega
  have hi1 : c < N + 2 := by omega
  have hN1 : N < N + 2 := by omega
  have hN2 : N + 1 < N + 2 := by omega
  have hbs : B.set c [.d (.int .i64 p)] = B := by
    obtain ⟨_, h⟩ := List.getElem?_eq_some_iff.1 hB
    rw [← h, List.set_getElem_self]
  generalize hres : prS n pr p = res
  change andS (rowS suS pr.structs) (rowS (fuS n) pr.funcs) p = res at hres
  unfold prV
  refine AFn.bodyE (body := k14_0) 80 Tryd.func14 (by kernel_rfl) (by kernel_rfl) (by kernel_rfl) (Nat.le_of_ble_eq_true rfl) fun hsm => ?_
  simp only [smL, sm, exV, stV, tyV, caV, paV, suV, fuV, prV, Bool.and_eq_true, decide_eq_true_eq, and_true, true_and, List.length_map, ssD_length] at hsm
  refine ARun.go 7 ?_
  simp -implicitDefEqProofs only [awC, awN, Nat.reduceAdd, Nat.reduceSub, Nat.reduceLT, Nat.reduceLeDiff, Nat.reduceEqDiff, Int.reduceToNat, Int.reduceEq, Int.reduceLT, Int.reduceLE, Int.reduceNeg, Int.reduceAdd, Int.reduceSub, Nat.reduceBEq, awT, c14, tys, hn, hi]
  refine ARun.join (fun q : Int => (envS 80 [(2, .ptr N 0), (3, .ptr (N + 1) 0), (4, .d (.bool false))], ⟨B.set c [.d (.int .i64 q)] ++ [[.ptr c 0], [.d (.sl (pr.structs.map suD)), .d (.sl (pr.funcs.map fuD))]], T⟩)) (fun q => (0 ≤ q ∧ q ≤ 60000) ∧ rowS (fuS n) pr.funcs q = res) ?_ ?_
  rotate_left
  · intro K' hK
    refine ARun.goJ 30 ?_
    simp -implicitDefEqProofs only [awC, awN, Nat.reduceAdd, Nat.reduceSub, Nat.reduceLT, Nat.reduceLeDiff, Nat.reduceEqDiff, Int.reduceToNat, Int.reduceEq, Int.reduceLT, Int.reduceLE, Int.reduceNeg, Int.reduceAdd, Int.reduceSub, Nat.reduceBEq, awT, c14, tys, hn, hi]
    refine ARun.fits fun hf => ?_
    have hf2 : ∀ q' : Int, Fits ⟨B.set c [.d (.int .i64 q')] ++ [[.ptr c 0], [.d (.sl (pr.structs.map suD)), .d (.sl (pr.funcs.map fuD))]], T⟩ := fun q' => by
      have := hf.set (i := c) (vs := [.d (.int .i64 q')]) rfl
      rwa [bx_set_old (by omega)] at this
    refine ARun.loopB (fun a : Nat × Int => (envS 80 [(2, .ptr N 0), (3, .ptr (N + 1) 0), (4, .d (.bool false)), (10, .d (.sl (pr.structs.map suD))), (11, .d (.int .i64 pr.structs.length)), (12, .d (.int .i64 a.1))], ⟨B.set c [.d (.int .i64 a.2)] ++ [[.ptr c 0], [.d (.sl (pr.structs.map suD)), .d (.sl (pr.funcs.map fuD))]], T⟩)) (fun a => a.1 ≤ pr.structs.length ∧ (0 ≤ a.2 ∧ a.2 ≤ 60000) ∧ andS (rowS suS (pr.structs.drop a.1)) (rowS (fuS n) pr.funcs) a.2 = res) (fun a => pr.structs.length - a.1) (0, p) ⟨by omega, hp, hres⟩ ?_ (by rw [hbs]) ?_
    · skip
      refine Agree.env _ ?_
      simp only [agree_cons, agree_nil, eq_self, and_self, true_and, and_true, Int.natCast_add, Int.natCast_one, Int.natCast_zero, envS_get, envS_eval, lk_cons, lk_nil, Nat.reduceBEq, Nat.reduceAdd, Nat.reduceSub, cond_true, cond_false, hn]
    rintro ⟨i, q⟩ ⟨h1, h2, h3⟩ ih
    dsimp only at h1 h2 h3 ih ⊢
    by_cases hlt : i < pr.structs.length
    · have hw := wrap_in ((i : Int) + 1) (by omega)
      have hg := List.getElem?_eq_getElem hlt
      have hlt' : decide ((i : Int) < (pr.structs.length : Int)) = true := decide_eq_true (by omega)
      rw [drop_get hlt] at h3
      obtain ⟨x, hx⟩ : ∃ x, pr.structs[i] = x := ⟨_, rfl⟩
      rw [hx] at hg h3
      change andS (andS (suS x) (rowS suS (pr.structs.drop (i + 1)))) (rowS (fuS n) pr.funcs) q = res at h3
      rw [andS_assoc] at h3
      change andS (andS (partS 0) (andS (allowS (identS x.name)) (paS 60 x.fields))) _ q = res at h3
      rw [andS_assoc] at h3
      have hpar := params_ab 60 (by omega) x.fields c
      have hcast : ((60 : Nat) : Int) = 60 := rfl
      rw [hcast] at hpar
      refine ARun.goJ 100 ?_
      simp -implicitDefEqProofs only [awC, awN, Nat.reduceAdd, Nat.reduceSub, Nat.reduceLT, Nat.reduceLeDiff, Nat.reduceEqDiff, Int.reduceToNat, Int.reduceEq, Int.reduceLT, Int.reduceLE, Int.reduceNeg, Int.reduceAdd, Int.reduceSub, Nat.reduceBEq, awT, c14, tys, hn, hi, List.getElem?_map, hg, hlt', suD]
      refine callS_fn (part_ab c 0 q _ _ (by rw [bx_old (by simp; omega)]; exact bx_get hc) h2) ?_
      rintro _ _ ⟨rfl, rfl⟩
      refine ARun.goK 200 ?_
      simp -implicitDefEqProofs only [awC, awN, Nat.reduceAdd, Nat.reduceSub, Nat.reduceLT, Nat.reduceLeDiff, Nat.reduceEqDiff, Int.reduceToNat, Int.reduceEq, Int.reduceLT, Int.reduceLE, Int.reduceNeg, Int.reduceAdd, Int.reduceSub, Nat.reduceBEq, awT, c14, tys, hn, hi]
      cases hk : partOk 0 q
      · rw [andS_no (show (partS 0 q).1 = false from hk)] at h3
        simp -implicitDefEqProofs only [awC, awN, Nat.reduceAdd, Nat.reduceSub, Nat.reduceLT, Nat.reduceLeDiff, Nat.reduceEqDiff, Int.reduceToNat, Int.reduceEq, Int.reduceLT, Int.reduceLE, Int.reduceNeg, Int.reduceAdd, Int.reduceSub, Nat.reduceBEq, awT, c14, tys, hn, hi, hk]
        refine ARun.ret Tryd.func14 rfl (Left.set (by rfl) ?_)
        rw [← h3]
        (try clear ih)
        (try simp only [decide_eq_true_eq, decide_eq_false_iff_not, Bool.not_eq_true', Bool.not_eq_false'] at *)
        simp only [wk, Same, List.getD_cons_zero, List.getD_cons_succ, envS_get, envS_eval, lk_cons, lk_nil, Nat.reduceBEq, Nat.reduceAdd, Nat.reduceSub, cond_true, cond_false]
        simp [*]
        rfl
      have hpo := partOk_in hk
      rw [andS_yes (show (partS 0 q).1 = true from hk)] at h3
      change andS _ _ (q + 1) = res at h3
      rw [andS_assoc] at h3
      simp -implicitDefEqProofs only [awC, awN, Nat.reduceAdd, Nat.reduceSub, Nat.reduceLT, Nat.reduceLeDiff, Nat.reduceEqDiff, Int.reduceToNat, Int.reduceEq, Int.reduceLT, Int.reduceLE, Int.reduceNeg, Int.reduceAdd, Int.reduceSub, Nat.reduceBEq, awT, c14, tys, hn, hi, hk]
      refine callS_fn (ident_ab x.name _) ?_
      rintro _ _ ⟨rfl, rfl⟩
      refine ARun.goK 200 ?_
      simp -implicitDefEqProofs only [awC, awN, Nat.reduceAdd, Nat.reduceSub, Nat.reduceLT, Nat.reduceLeDiff, Nat.reduceEqDiff, Int.reduceToNat, Int.reduceEq, Int.reduceLT, Int.reduceLE, Int.reduceNeg, Int.reduceAdd, Int.reduceSub, Nat.reduceBEq, awT, c14, tys, hn, hi]
      cases hid : identS x.name
      · rw [andS_no (by rw [hid]; rfl)] at h3
        simp -implicitDefEqProofs only [awC, awN, Nat.reduceAdd, Nat.reduceSub, Nat.reduceLT, Nat.reduceLeDiff, Nat.reduceEqDiff, Int.reduceToNat, Int.reduceEq, Int.reduceLT, Int.reduceLE, Int.reduceNeg, Int.reduceAdd, Int.reduceSub, Nat.reduceBEq, awT, c14, tys, hn, hi]
        refine ARun.ret Tryd.func14 rfl (Left.set (by rfl) ?_)
        rw [← h3]
        (try clear ih)
        (try simp only [decide_eq_true_eq, decide_eq_false_iff_not, Bool.not_eq_true', Bool.not_eq_false'] at *)
        simp only [wk, Same, List.getD_cons_zero, List.getD_cons_succ, envS_get, envS_eval, lk_cons, lk_nil, Nat.reduceBEq, Nat.reduceAdd, Nat.reduceSub, cond_true, cond_false]
        simp [*]
        rfl
      rw [andS_yes (by rw [hid]; rfl)] at h3
      change andS _ _ (q + 1) = res at h3
      simp -implicitDefEqProofs only [awC, awN, Nat.reduceAdd, Nat.reduceSub, Nat.reduceLT, Nat.reduceLeDiff, Nat.reduceEqDiff, Int.reduceToNat, Int.reduceEq, Int.reduceLT, Int.reduceLE, Int.reduceNeg, Int.reduceAdd, Int.reduceSub, Nat.reduceBEq, awT, c14, tys, hn, hi]
      refine callS_fn (hpar (q + 1) _ T (by rw [bx_old (by simp; omega)]; exact bx_get hc) ⟨by omega, hpo.1⟩) ?_
      rintro _ _ ⟨rfl, rfl⟩
      have hup := (Cnts.pa 60 x.fields).up (q + 1)
      have hbn := Bnds.pa 60 x.fields (q + 1) hpo.1
      obtain ⟨⟨b, r⟩, hpa⟩ : ∃ z, paS 60 x.fields (q + 1) = z := ⟨_, rfl⟩
      rw [hpa] at hup hbn
      refine ARun.goK 200 ?_
      simp -implicitDefEqProofs only [awC, awN, Nat.reduceAdd, Nat.reduceSub, Nat.reduceLT, Nat.reduceLeDiff, Nat.reduceEqDiff, Int.reduceToNat, Int.reduceEq, Int.reduceLT, Int.reduceLE, Int.reduceNeg, Int.reduceAdd, Int.reduceSub, Nat.reduceBEq, awT, c14, tys, hn, hi, hpa]
      cases b
      · rw [andS_no (by rw [hpa]), hpa] at h3
        simp -implicitDefEqProofs only [awC, awN, Nat.reduceAdd, Nat.reduceSub, Nat.reduceLT, Nat.reduceLeDiff, Nat.reduceEqDiff, Int.reduceToNat, Int.reduceEq, Int.reduceLT, Int.reduceLE, Int.reduceNeg, Int.reduceAdd, Int.reduceSub, Nat.reduceBEq, awT, c14, tys, hn, hi]
        refine ARun.ret Tryd.func14 rfl (Left.set (by rfl) ?_)
        rw [← h3]
        (try clear ih)
        (try simp only [decide_eq_true_eq, decide_eq_false_iff_not, Bool.not_eq_true', Bool.not_eq_false'] at *)
        simp only [wk, Same, List.getD_cons_zero, List.getD_cons_succ, envS_get, envS_eval, lk_cons, lk_nil, Nat.reduceBEq, Nat.reduceAdd, Nat.reduceSub, cond_true, cond_false]
        simp [*]
        skip
      · rw [andS_yes (by rw [hpa]), hpa] at h3
        have hup := hup rfl
        have hbn := hbn rfl
        dsimp only at hup hbn h3
        simp -implicitDefEqProofs only [awC, awN, Nat.reduceAdd, Nat.reduceSub, Nat.reduceLT, Nat.reduceLeDiff, Nat.reduceEqDiff, Int.reduceToNat, Int.reduceEq, Int.reduceLT, Int.reduceLE, Int.reduceNeg, Int.reduceAdd, Int.reduceSub, Nat.reduceBEq, awT, c14, tys, hn, hi, hw]
        rw [app3]
        refine ih (i + 1, r) ⟨hlt, ⟨by dsimp only; omega, hbn⟩, h3⟩ (by dsimp only; omega) _ _ _ _ rfl ⟨by simp; omega, Nat.le_refl _⟩ (hf2 r) ?_
        refine AgreeF.env _ ?_
        simp only [agreeF_cons, agreeF_nil, fit, fitL, eq_self, and_self, true_and, and_true, Bool.and_true, Bool.true_and, Bool.and_self, decide_true, List.length_set, Int.natCast_add, Int.natCast_one, Int.natCast_zero, envS_get, envS_eval, lk_cons, lk_nil, Nat.reduceBEq, Nat.reduceAdd, Nat.reduceSub, cond_true, cond_false, hn, List.length_append, List.length_cons, List.length_nil, Nat.zero_add, Nat.reduceAdd, hN1, hN2]
    · have hlt' : decide ((i : Int) < (pr.structs.length : Int)) = false := decide_eq_false (by omega)
      rw [List.drop_eq_nil_of_le (by omega), andS_yes rfl] at h3
      refine ARun.goK 100 (k := [_, _, _]) (K := K') ?_
      simp -implicitDefEqProofs only [awC, awN, Nat.reduceAdd, Nat.reduceSub, Nat.reduceLT, Nat.reduceLeDiff, Nat.reduceEqDiff, Int.reduceToNat, Int.reduceEq, Int.reduceLT, Int.reduceLE, Int.reduceNeg, Int.reduceAdd, Int.reduceSub, Nat.reduceBEq, awT, c14, tys, hn, hi, hlt']
      refine hK q ⟨h2, h3⟩ _ _ ?_ rfl
      refine Agree.env _ ?_
      simp only [agree_cons, agree_nil, eq_self, and_self, true_and, and_true, Int.natCast_add, Int.natCast_one, Int.natCast_zero, envS_get, envS_eval, lk_cons, lk_nil, Nat.reduceBEq, Nat.reduceAdd, Nat.reduceSub, cond_true, cond_false, hn]
  · rintro q0 ⟨hq0, hres2⟩
    clear hres hbs
    dsimp only
    refine ARun.go 20 ?_
    simp -implicitDefEqProofs only [awC, awN, Nat.reduceAdd, Nat.reduceSub, Nat.reduceLT, Nat.reduceLeDiff, Nat.reduceEqDiff, Int.reduceToNat, Int.reduceEq, Int.reduceLT, Int.reduceLE, Int.reduceNeg, Int.reduceAdd, Int.reduceSub, Nat.reduceBEq, awT, c14, tys, hn, hi]
    refine ARun.fits fun hf => ?_
    have hf2 : ∀ q' : Int, Fits ⟨B.set c [.d (.int .i64 q')] ++ [[.ptr c 0], [.d (.sl (pr.structs.map suD)), .d (.sl (pr.funcs.map fuD))]], T⟩ := fun q' => by
      have := hf.set (i := c) (vs := [.d (.int .i64 q')]) rfl
      rwa [bx_set_old (by simp; omega), List.set_set] at this
    refine ARun.loopB (fun a : Nat × Int => (envS 80 [(2, .ptr N 0), (3, .ptr (N + 1) 0), (4, .d (.bool false)), (34, .d (.sl (pr.funcs.map fuD))), (35, .d (.int .i64 pr.funcs.length)), (36, .d (.int .i64 a.1))], ⟨B.set c [.d (.int .i64 a.2)] ++ [[.ptr c 0], [.d (.sl (pr.structs.map suD)), .d (.sl (pr.funcs.map fuD))]], T⟩)) (fun a => a.1 ≤ pr.funcs.length ∧ (0 ≤ a.2 ∧ a.2 ≤ 60000) ∧ rowS (fuS n) (pr.funcs.drop a.1) a.2 = res) (fun a => pr.funcs.length - a.1) (0, q0) ⟨by omega, hq0, hres2⟩ ?_ rfl ?_
    · skip
      refine Agree.env _ ?_
      simp only [agree_cons, agree_nil, eq_self, and_self, true_and, and_true, Int.natCast_add, Int.natCast_one, Int.natCast_zero, envS_get, envS_eval, lk_cons, lk_nil, Nat.reduceBEq, Nat.reduceAdd, Nat.reduceSub, cond_true, cond_false, hn]
    rintro ⟨i, q⟩ ⟨h1, h2, h3⟩ ih
    dsimp only at h1 h2 h3 ih ⊢
    by_cases hlt : i < pr.funcs.length
    · have hw := wrap_in ((i : Int) + 1) (by omega)
      have hg := List.getElem?_eq_getElem hlt
      have hlt' : decide ((i : Int) < (pr.funcs.length : Int)) = true := decide_eq_true (by omega)
      rw [drop_get hlt] at h3
      obtain ⟨x, hx⟩ : ∃ x, pr.funcs[i] = x := ⟨_, rfl⟩
      have hxm : x ∈ pr.funcs := by rw [← hx]; exact List.getElem_mem hlt
      rw [hx] at hg h3
      change andS (andS (partS 0) (andS (allowS (identS x.name)) (andS (paS 20 x.params) (andS (allowS (decide (1 ≤ x.results.length) && decide (x.results.length ≤ 20))) (andS (rowS (fun t p => tyS identS t 0 p) x.results) (rowS (fun s => stS n s 0) x.body)))))) (rowS (fuS n) (pr.funcs.drop (i + 1))) q = res at h3
      rw [andS_assoc] at h3
      have hpar := params_ab 20 (by omega) x.params c
      have hcast : ((20 : Nat) : Int) = 20 := rfl
      rw [hcast] at hpar
      refine ARun.go 100 ?_
      simp -implicitDefEqProofs only [awC, awN, Nat.reduceAdd, Nat.reduceSub, Nat.reduceLT, Nat.reduceLeDiff, Nat.reduceEqDiff, Int.reduceToNat, Int.reduceEq, Int.reduceLT, Int.reduceLE, Int.reduceNeg, Int.reduceAdd, Int.reduceSub, Nat.reduceBEq, awT, c14, tys, hn, hi, List.getElem?_map, hg, hlt', fuD]
      refine callS_fn (part_ab c 0 q _ _ (by rw [bx_old (by simp; omega)]; exact bx_get hc) h2) ?_
      rintro _ _ ⟨rfl, rfl⟩
      refine ARun.go 200 ?_
      simp -implicitDefEqProofs only [awC, awN, Nat.reduceAdd, Nat.reduceSub, Nat.reduceLT, Nat.reduceLeDiff, Nat.reduceEqDiff, Int.reduceToNat, Int.reduceEq, Int.reduceLT, Int.reduceLE, Int.reduceNeg, Int.reduceAdd, Int.reduceSub, Nat.reduceBEq, awT, c14, tys, hn, hi]
      cases hk : partOk 0 q
      · rw [andS_no (show (partS 0 q).1 = false from hk)] at h3
        simp -implicitDefEqProofs only [awC, awN, Nat.reduceAdd, Nat.reduceSub, Nat.reduceLT, Nat.reduceLeDiff, Nat.reduceEqDiff, Int.reduceToNat, Int.reduceEq, Int.reduceLT, Int.reduceLE, Int.reduceNeg, Int.reduceAdd, Int.reduceSub, Nat.reduceBEq, awT, c14, tys, hn, hi, hk]
        refine ARun.ret Tryd.func14 rfl (Left.set (by rfl) ?_)
        rw [← h3]
        (try clear ih)
        (try simp only [decide_eq_true_eq, decide_eq_false_iff_not, Bool.not_eq_true', Bool.not_eq_false'] at *)
        simp only [wk, Same, List.getD_cons_zero, List.getD_cons_succ, envS_get, envS_eval, lk_cons, lk_nil, Nat.reduceBEq, Nat.reduceAdd, Nat.reduceSub, cond_true, cond_false]
        simp [*]
        rfl
      have hpo := partOk_in hk
      rw [andS_yes (show (partS 0 q).1 = true from hk)] at h3
      change andS _ _ (q + 1) = res at h3
      rw [andS_assoc] at h3
      simp -implicitDefEqProofs only [awC, awN, Nat.reduceAdd, Nat.reduceSub, Nat.reduceLT, Nat.reduceLeDiff, Nat.reduceEqDiff, Int.reduceToNat, Int.reduceEq, Int.reduceLT, Int.reduceLE, Int.reduceNeg, Int.reduceAdd, Int.reduceSub, Nat.reduceBEq, awT, c14, tys, hn, hi, hk]
      refine callS_fn (ident_ab x.name _) ?_
      rintro _ _ ⟨rfl, rfl⟩
      refine ARun.go 200 ?_
      simp -implicitDefEqProofs only [awC, awN, Nat.reduceAdd, Nat.reduceSub, Nat.reduceLT, Nat.reduceLeDiff, Nat.reduceEqDiff, Int.reduceToNat, Int.reduceEq, Int.reduceLT, Int.reduceLE, Int.reduceNeg, Int.reduceAdd, Int.reduceSub, Nat.reduceBEq, awT, c14, tys, hn, hi]
      cases hid : identS x.name
      · rw [andS_no (by rw [hid]; rfl)] at h3
        simp -implicitDefEqProofs only [awC, awN, Nat.reduceAdd, Nat.reduceSub, Nat.reduceLT, Nat.reduceLeDiff, Nat.reduceEqDiff, Int.reduceToNat, Int.reduceEq, Int.reduceLT, Int.reduceLE, Int.reduceNeg, Int.reduceAdd, Int.reduceSub, Nat.reduceBEq, awT, c14, tys, hn, hi]
        refine ARun.ret Tryd.func14 rfl (Left.set (by rfl) ?_)
        rw [← h3]
        (try clear ih)
        (try simp only [decide_eq_true_eq, decide_eq_false_iff_not, Bool.not_eq_true', Bool.not_eq_false'] at *)
        simp only [wk, Same, List.getD_cons_zero, List.getD_cons_succ, envS_get, envS_eval, lk_cons, lk_nil, Nat.reduceBEq, Nat.reduceAdd, Nat.reduceSub, cond_true, cond_false]
        simp [*]
        rfl
      rw [andS_yes (by rw [hid]; rfl)] at h3
      change andS _ _ (q + 1) = res at h3
      rw [andS_assoc] at h3
      simp -implicitDefEqProofs only [awC, awN, Nat.reduceAdd, Nat.reduceSub, Nat.reduceLT, Nat.reduceLeDiff, Nat.reduceEqDiff, Int.reduceToNat, Int.reduceEq, Int.reduceLT, Int.reduceLE, Int.reduceNeg, Int.reduceAdd, Int.reduceSub, Nat.reduceBEq, awT, c14, tys, hn, hi]
      refine callS_fn (hpar (q + 1) _ T (by rw [bx_old (by simp; omega)]; exact bx_get hc) ⟨by omega, hpo.1⟩) ?_
      rintro _ _ ⟨rfl, rfl⟩
      have hup := (Cnts.pa 20 x.params).up (q + 1)
      have hbn := Bnds.pa 20 x.params (q + 1) hpo.1
      obtain ⟨⟨b, r⟩, hpa⟩ : ∃ z, paS 20 x.params (q + 1) = z := ⟨_, rfl⟩
      rw [hpa] at hup hbn
      refine ARun.go 200 ?_
      simp -implicitDefEqProofs only [awC, awN, Nat.reduceAdd, Nat.reduceSub, Nat.reduceLT, Nat.reduceLeDiff, Nat.reduceEqDiff, Int.reduceToNat, Int.reduceEq, Int.reduceLT, Int.reduceLE, Int.reduceNeg, Int.reduceAdd, Int.reduceSub, Nat.reduceBEq, awT, c14, tys, hn, hi, hpa]
      cases b
      · rw [andS_no (by rw [hpa]), hpa] at h3
        simp -implicitDefEqProofs only [awC, awN, Nat.reduceAdd, Nat.reduceSub, Nat.reduceLT, Nat.reduceLeDiff, Nat.reduceEqDiff, Int.reduceToNat, Int.reduceEq, Int.reduceLT, Int.reduceLE, Int.reduceNeg, Int.reduceAdd, Int.reduceSub, Nat.reduceBEq, awT, c14, tys, hn, hi]
        refine ARun.ret Tryd.func14 rfl (Left.set (by rfl) ?_)
        rw [← h3]
        (try clear ih)
        (try simp only [decide_eq_true_eq, decide_eq_false_iff_not, Bool.not_eq_true', Bool.not_eq_false'] at *)
        simp only [wk, Same, List.getD_cons_zero, List.getD_cons_succ, envS_get, envS_eval, lk_cons, lk_nil, Nat.reduceBEq, Nat.reduceAdd, Nat.reduceSub, cond_true, cond_false]
        simp [*]
        skip
      rw [andS_yes (by rw [hpa]), hpa] at h3
      have hup := hup rfl
      have hbn := hbn rfl
      dsimp only at hup hbn h3
      rw [andS_assoc] at h3
      by_cases hlo : 1 ≤ x.results.length
      case neg =>
        have e1 : decide ((x.results.length : Int) < 1) = true := decide_eq_true (by omega)
        rw [andS_no (by rw [decide_eq_false hlo]; rfl)] at h3
        simp -implicitDefEqProofs only [awC, awN, Nat.reduceAdd, Nat.reduceSub, Nat.reduceLT, Nat.reduceLeDiff, Nat.reduceEqDiff, Int.reduceToNat, Int.reduceEq, Int.reduceLT, Int.reduceLE, Int.reduceNeg, Int.reduceAdd, Int.reduceSub, Nat.reduceBEq, awT, c14, tys, hn, hi, e1]
        refine ARun.ret Tryd.func14 rfl (Left.set (by rfl) ?_)
        rw [← h3]
        (try clear ih)
        (try simp only [decide_eq_true_eq, decide_eq_false_iff_not, Bool.not_eq_true', Bool.not_eq_false'] at *)
        simp only [wk, Same, List.getD_cons_zero, List.getD_cons_succ, envS_get, envS_eval, lk_cons, lk_nil, Nat.reduceBEq, Nat.reduceAdd, Nat.reduceSub, cond_true, cond_false]
        simp [*]
        rfl
      have e1 : decide ((x.results.length : Int) < 1) = false := decide_eq_false (by omega)
      by_cases hhi : x.results.length ≤ 20
      case neg =>
        have e2 : decide ((20 : Int) < (x.results.length : Int)) = true := decide_eq_true (by omega)
        rw [andS_no (by rw [decide_eq_false hhi, Bool.and_false]; rfl)] at h3
        simp -implicitDefEqProofs only [awC, awN, Nat.reduceAdd, Nat.reduceSub, Nat.reduceLT, Nat.reduceLeDiff, Nat.reduceEqDiff, Int.reduceToNat, Int.reduceEq, Int.reduceLT, Int.reduceLE, Int.reduceNeg, Int.reduceAdd, Int.reduceSub, Nat.reduceBEq, awT, c14, tys, hn, hi, e1, e2]
        refine ARun.ret Tryd.func14 rfl (Left.set (by rfl) ?_)
        rw [← h3]
        (try clear ih)
        (try simp only [decide_eq_true_eq, decide_eq_false_iff_not, Bool.not_eq_true', Bool.not_eq_false'] at *)
        simp only [wk, Same, List.getD_cons_zero, List.getD_cons_succ, envS_get, envS_eval, lk_cons, lk_nil, Nat.reduceBEq, Nat.reduceAdd, Nat.reduceSub, cond_true, cond_false]
        simp [*]
        rfl
      have e2 : decide ((20 : Int) < (x.results.length : Int)) = false := decide_eq_false (by omega)
      rw [andS_yes (by rw [decide_eq_true hlo, decide_eq_true hhi]; rfl)] at h3
      change andS _ _ r = res at h3
      rw [andS_assoc] at h3
      simp -implicitDefEqProofs only [awC, awN, Nat.reduceAdd, Nat.reduceSub, Nat.reduceLT, Nat.reduceLeDiff, Nat.reduceEqDiff, Int.reduceToNat, Int.reduceEq, Int.reduceLT, Int.reduceLE, Int.reduceNeg, Int.reduceAdd, Int.reduceSub, Nat.reduceBEq, awT, c14, tys, hn, hi, e1, e2]
      have hgd := ty_good N c B [[.ptr c 0], [.d (.sl (pr.structs.map suD)), .d (.sl (pr.funcs.map fuD))], [.d (.str x.name), .d (.sl (x.params.map paD)), .d (.sl (x.results.map tyD)), .d (.sl (x.body.map stD))]] T hc (fun q => by rw [bx_loc0 (by simpa using hn)]; rfl) x.results r ⟨by omega, hbn⟩
      have hcf := containsFunc_Type 38 [] [.ptr N 0] (fun q : Int => ⟨B.set c [.d (.int .i64 q)] ++ [[.ptr c 0], [.d (.sl (pr.structs.map suD)), .d (.sl (pr.funcs.map fuD))], [.d (.str x.name), .d (.sl (x.params.map paD)), .d (.sl (x.results.map tyD)), .d (.sl (x.body.map stD))]], T⟩) (fun x q => (!(tyS identS x 0 q).1, (tyS identS x 0 q).2)) (fun _ _ => ⟨by simp, rfl⟩) x.results (by omega) r hgd
      rw [anyF_row (fun x => tyS identS x 0)] at hcf
      refine callS_fn hcf ?_
      rintro _ _ ⟨rfl, rfl⟩
      have hup2 := (Cnts.row (f := fun t p => tyS identS t 0 p) (c := tcS) x.results fun t _ => Cnts.ty t 0).up r
      have hbn2 := Bnds.row (f := fun t p => tyS identS t 0 p) (fun t => Bnds.ty t 0) x.results r hbn
      obtain ⟨⟨b, r2⟩, hty⟩ : ∃ z, rowS (fun t p => tyS identS t 0 p) x.results r = z := ⟨_, rfl⟩
      rw [hty] at hup2 hbn2
      refine ARun.go 200 ?_
      simp -implicitDefEqProofs only [awC, awN, Nat.reduceAdd, Nat.reduceSub, Nat.reduceLT, Nat.reduceLeDiff, Nat.reduceEqDiff, Int.reduceToNat, Int.reduceEq, Int.reduceLT, Int.reduceLE, Int.reduceNeg, Int.reduceAdd, Int.reduceSub, Nat.reduceBEq, awT, c14, tys, hn, hi, hty]
      cases b
      · rw [andS_no (by rw [hty]), hty] at h3
        simp -implicitDefEqProofs only [awC, awN, Nat.reduceAdd, Nat.reduceSub, Nat.reduceLT, Nat.reduceLeDiff, Nat.reduceEqDiff, Int.reduceToNat, Int.reduceEq, Int.reduceLT, Int.reduceLE, Int.reduceNeg, Int.reduceAdd, Int.reduceSub, Nat.reduceBEq, awT, c14, tys, hn, hi]
        refine ARun.ret Tryd.func14 rfl (Left.set (by rfl) ?_)
        rw [← h3]
        (try clear ih)
        (try simp only [decide_eq_true_eq, decide_eq_false_iff_not, Bool.not_eq_true', Bool.not_eq_false'] at *)
        simp only [wk, Same, List.getD_cons_zero, List.getD_cons_succ, envS_get, envS_eval, lk_cons, lk_nil, Nat.reduceBEq, Nat.reduceAdd, Nat.reduceSub, cond_true, cond_false]
        simp [*]
        skip
      rw [andS_yes (by rw [hty]), hty] at h3
      have hup2 := hup2 rfl
      have hbn2 := hbn2 rfl
      dsimp only at hup2 hbn2 h3
      simp -implicitDefEqProofs only [awC, awN, Nat.reduceAdd, Nat.reduceSub, Nat.reduceLT, Nat.reduceLeDiff, Nat.reduceEqDiff, Int.reduceToNat, Int.reduceEq, Int.reduceLT, Int.reduceLE, Int.reduceNeg, Int.reduceAdd, Int.reduceSub, Nat.reduceBEq, awT, c14, tys, hn, hi]
      refine callS_fn (stmts_ab n x.body (hst x hxm) c 0 r2 _ T (by rw [bx_old (by simp; omega)]; exact bx_get hc) ⟨by omega, hbn2⟩ ⟨by omega, by omega⟩) ?_
      rintro _ _ ⟨rfl, rfl⟩
      have hup3 := (Cnts.row (f := fun s => stS n s 0) (c := stC n) x.body fun y _ => Cnts.st n y 0).up r2
      have hbn3 := Bnds.row (f := fun s => stS n s 0) (fun y => Bnds.st n y 0) x.body r2 hbn2
      obtain ⟨⟨b, r3⟩, hst3⟩ : ∃ z, rowS (fun s => stS n s 0) x.body r2 = z := ⟨_, rfl⟩
      rw [hst3] at hup3 hbn3
      refine ARun.go 200 ?_
      simp -implicitDefEqProofs only [awC, awN, Nat.reduceAdd, Nat.reduceSub, Nat.reduceLT, Nat.reduceLeDiff, Nat.reduceEqDiff, Int.reduceToNat, Int.reduceEq, Int.reduceLT, Int.reduceLE, Int.reduceNeg, Int.reduceAdd, Int.reduceSub, Nat.reduceBEq, awT, c14, tys, hn, hi, hst3]
      cases b
      · rw [andS_no (by rw [hst3]), hst3] at h3
        simp -implicitDefEqProofs only [awC, awN, Nat.reduceAdd, Nat.reduceSub, Nat.reduceLT, Nat.reduceLeDiff, Nat.reduceEqDiff, Int.reduceToNat, Int.reduceEq, Int.reduceLT, Int.reduceLE, Int.reduceNeg, Int.reduceAdd, Int.reduceSub, Nat.reduceBEq, awT, c14, tys, hn, hi]
        refine ARun.ret Tryd.func14 rfl (Left.set (by rfl) ?_)
        rw [← h3]
        (try clear ih)
        (try simp only [decide_eq_true_eq, decide_eq_false_iff_not, Bool.not_eq_true', Bool.not_eq_false'] at *)
        simp only [wk, Same, List.getD_cons_zero, List.getD_cons_succ, envS_get, envS_eval, lk_cons, lk_nil, Nat.reduceBEq, Nat.reduceAdd, Nat.reduceSub, cond_true, cond_false]
        simp [*]
        skip
      rw [andS_yes (by rw [hst3]), hst3] at h3
      have hup3 := hup3 rfl
      have hbn3 := hbn3 rfl
      dsimp only at hup3 hbn3 h3
      simp -implicitDefEqProofs only [awC, awN, Nat.reduceAdd, Nat.reduceSub, Nat.reduceLT, Nat.reduceLeDiff, Nat.reduceEqDiff, Int.reduceToNat, Int.reduceEq, Int.reduceLT, Int.reduceLE, Int.reduceNeg, Int.reduceAdd, Int.reduceSub, Nat.reduceBEq, awT, c14, tys, hn, hi, hw]
      rw [app3]
      refine ih (i + 1, r3) ⟨hlt, ⟨by dsimp only; omega, hbn3⟩, h3⟩ (by dsimp only; omega) _ _ _ _ rfl ⟨by simp; omega, Nat.le_refl _⟩ (hf2 r3) ?_
      refine AgreeF.env _ ?_
      simp only [agreeF_cons, agreeF_nil, fit, fitL, eq_self, and_self, true_and, and_true, Bool.and_true, Bool.true_and, Bool.and_self, decide_true, List.length_set, Int.natCast_add, Int.natCast_one, Int.natCast_zero, envS_get, envS_eval, lk_cons, lk_nil, Nat.reduceBEq, Nat.reduceAdd, Nat.reduceSub, cond_true, cond_false, hn, List.length_append, List.length_cons, List.length_nil, Nat.zero_add, Nat.reduceAdd, hN1, hN2]
    · have hlt' : decide ((i : Int) < (pr.funcs.length : Int)) = false := decide_eq_false (by omega)
      rw [List.drop_eq_nil_of_le (by omega)] at h3
      refine ARun.go 100 ?_
      simp -implicitDefEqProofs only [awC, awN, Nat.reduceAdd, Nat.reduceSub, Nat.reduceLT, Nat.reduceLeDiff, Nat.reduceEqDiff, Int.reduceToNat, Int.reduceEq, Int.reduceLT, Int.reduceLE, Int.reduceNeg, Int.reduceAdd, Int.reduceSub, Nat.reduceBEq, awT, c14, tys, hn, hi, hlt']
      refine ARun.ret Tryd.func14 rfl (Left.set (by rfl) ?_)
      rw [← h3]
      (try clear ih)
      (try simp only [decide_eq_true_eq, decide_eq_false_iff_not, Bool.not_eq_true', Bool.not_eq_false'] at *)
      simp only [wk, Same, List.getD_cons_zero, List.getD_cons_succ, envS_get, envS_eval, lk_cons, lk_nil, Nat.reduceBEq, Nat.reduceAdd, Nat.reduceSub, cond_true, cond_false]
      simp [*]
      rw [← h3]
      exact ⟨rfl, rfl⟩
end Go.Proofs.YtombghldgdcjcaaDoor

/- Right. -/
namespace Go.Proofs.YtombghldgdcjcaaDoor
open Go.RowKit Go.Av Go.Ab
set_option linter.unusedSimpArgs false
set_option maxRecDepth 100000

set_option maxHeartbeats 1000000 in
theorem right_ab (n : Nat) (pr : PrT) (hst : ∀ f ∈ pr.funcs, ∀ x ∈ f.body, StmtOk n x) (B : List (List V)) (T : List (Nat × Nat)) :
    AFn Tryd.prog TabI 6 [prV pr] ⟨B, T⟩ (Same (.d (.bool (prS n pr 0).1)) ⟨B, T⟩) := by
  obtain ⟨N, hn⟩ : ∃ N, B.length = N := ⟨_, rfl⟩
  have h := prog_ab n pr hst (N + 1) 0 (B ++ [[.d (.sl (pr.structs.map suD)), .d (.sl (pr.funcs.map fuD))], [.d (.int .i64 0)]]) T (by rw [bx_loc hn]; rfl) (by omega)
  unfold prV at h ⊢
  refine AFn.bodyE (body := k6_0) 6 Tryd.func6 (by kernel_rfl) (by kernel_rfl) (by kernel_rfl) (Nat.le_of_ble_eq_true rfl) fun hsm => ?_
  simp only [smL, sm, exV, stV, tyV, caV, paV, suV, fuV, prV, Bool.and_eq_true, decide_eq_true_eq, and_true, true_and, List.length_map, ssD_length] at hsm
  refine ARun.go 100 ?_
  simp -implicitDefEqProofs only [awC, awN, Nat.reduceAdd, Nat.reduceSub, Nat.reduceLT, Nat.reduceLeDiff, Nat.reduceEqDiff, Int.reduceToNat, Int.reduceEq, Int.reduceLT, Int.reduceLE, Int.reduceNeg, Int.reduceAdd, Int.reduceSub, Nat.reduceBEq, awT, c6, tys, hn]
  refine callS_fn h ?_
  rintro _ _ ⟨rfl, rfl⟩
  refine ARun.go 100 ?_
  simp -implicitDefEqProofs only [awC, awN, Nat.reduceAdd, Nat.reduceSub, Nat.reduceLT, Nat.reduceLeDiff, Nat.reduceEqDiff, Int.reduceToNat, Int.reduceEq, Int.reduceLT, Int.reduceLE, Int.reduceNeg, Int.reduceAdd, Int.reduceSub, Nat.reduceBEq, awT, c6, tys, hn]
  refine ARun.ret Tryd.func6 rfl (Left.box ?_)
  (try clear ih)
  (try simp only [decide_eq_true_eq, decide_eq_false_iff_not, Bool.not_eq_true', Bool.not_eq_false'] at *)
  simp only [wk, Same, List.getD_cons_zero, List.getD_cons_succ, envS_get, envS_eval, lk_cons, lk_nil, Nat.reduceBEq, Nat.reduceAdd, Nat.reduceSub, cond_true, cond_false]
  simp [*]
  skip
end Go.Proofs.YtombghldgdcjcaaDoor

/- The counter: types, expressions, parameters. -/

namespace Go.Proofs.YtombghldgdcjcaaDoor
open Go.RowKit Go.Av Go.Ab
set_option linter.unusedSimpArgs false
set_option maxRecDepth 100000
noncomputable def k16_0 : Code := bodyOf Tryd.f16
noncomputable def k16_1 : Code := lft k16_0
noncomputable def o16_1 : Array Oper := opsOf k16_1
noncomputable def k16_2 : Code := rgt k16_0
noncomputable def k16_3 : Code := lft k16_2
noncomputable def k16_4 : Code := lft k16_3
noncomputable def k16_5 : Code := lft k16_4
noncomputable def o16_5 : Array Oper := opsOf k16_5
noncomputable def k16_6 : Code := rgt k16_4
noncomputable def k16_7 : Code := lft k16_6
noncomputable def k16_8 : Code := lft k16_7
noncomputable def k16_9 : Code := rgt k16_7
noncomputable def k16_10 : Code := rgt k16_6
noncomputable def k16_11 : Code := lft k16_10
noncomputable def k16_12 : Code := lft k16_11
noncomputable def k16_13 : Code := lft k16_12
noncomputable def o16_13 : Array Oper := opsOf k16_13
noncomputable def k16_14 : Code := rgt k16_12
noncomputable def k16_15 : Code := lft k16_14
noncomputable def o16_15 : Array Oper := opsOf k16_15
noncomputable def k16_16 : Code := rgt k16_14
noncomputable def o16_16 : Array Oper := opsOf k16_16
noncomputable def k16_17 : Code := rgt k16_10
noncomputable def o16_17 : Array Oper := opsOf k16_17
theorem c16s (I : Inv) (next stop : Cont) (k : List Item) (env : List V) (S : Mem) : (codeS I next stop k16_1 k env S = next (.inRegion o16_1 [0, 1, 2] :: k) env S) ∧
  (codeS I next stop k16_5 k env S = next (.inRegion o16_5 [0] :: k) env S) ∧
  (codeS I next stop k16_8 k env S = next k env S) ∧
  (codeS I next stop k16_9 k env S = exitV next (exitTo 0 k) env S) ∧
  (codeS I next stop k16_7 k env S = condV next (evalV I env (.tmp 9)) k16_8 k16_9 k env S) ∧
  (codeS I next stop k16_13 k env S = next (.inRegion o16_13 [0, 1, 2, 3] :: k) env S) ∧
  (codeS I next stop k16_15 k env S = next (.inRegion o16_15 [0, 1, 2, 3, 4, 5, 6, 7] :: k) env S) ∧
  (codeS I next stop k16_16 k env S = next (.inRegion o16_16 [0, 1, 2, 3] :: k) env S) ∧
  (codeS I next stop k16_14 k env S = next (.code k16_15 :: .code k16_16 :: k) env S) ∧
  (codeS I next stop k16_12 k env S = next (.code k16_13 :: .code k16_14 :: k) env S) ∧
  (codeS I next stop k16_11 k env S = next (.code k16_12 :: .inBlock 1 :: k) env S) ∧
  (codeS I next stop k16_17 k env S = next (.inRegion o16_17 [0, 1] :: k) env S) ∧
  (codeS I next stop k16_10 k env S = next (.code k16_11 :: .code k16_17 :: k) env S) ∧
  (codeS I next stop k16_6 k env S = next (.code k16_7 :: .code k16_10 :: k) env S) ∧
  (codeS I next stop k16_4 k env S = next (.code k16_5 :: .code k16_6 :: k) env S) ∧
  (codeS I next stop k16_3 k env S = stop (.code (.loop k16_4) :: k) env S) ∧
  (codeS I next stop k16_2 k env S = next (.code k16_3 :: .inBlock 0 :: k) env S) ∧
  (codeS I next stop k16_0 k env S = next (.code k16_1 :: .code k16_2 :: k) env S) := by
  repeat' apply And.intro
  all_goals kernel_rfl
theorem c16r (P : Program) (I : Inv) (next stop : Cont) (rest : List Nat) (k : List Item) (env : List V) (S : Mem) : (regS P I next stop o16_1 0 rest k env S = bindS next (op1 P (evalV I env) S (.move (.tmp 1))) (.inRegion o16_1 rest :: k) (some 6) env) ∧
  (regS P I next stop o16_1 1 rest k env S = bindS next (opCall P (evalV I env) S { callee := .builtin .len, args := #[.tmp 6], argTypes := #[32] }) (.inRegion o16_1 rest :: k) (some 7) env) ∧
  (regS P I next stop o16_1 2 rest k env S = bindS next (op1 P (evalV I env) S (.move (.const (.int .i64 0)))) (.inRegion o16_1 rest :: k) (some 8) env) ∧
  (regS P I next stop o16_5 0 rest k env S = bindS next (op1 P (evalV I env) S (.binOp .lss 3 (.tmp 8) (.tmp 7) 3)) (.inRegion o16_5 rest :: k) (some 9) env) ∧
  (regS P I next stop o16_13 0 rest k env S = bindS next (op1 P (evalV I env) S (.indexAddr 32 (.tmp 6) (.tmp 8))) (.inRegion o16_13 rest :: k) (some 10) env) ∧
  (regS P I next stop o16_13 1 rest k env S = bindS next (op1 P (evalV I env) S (.load 34 (.tmp 10))) (.inRegion o16_13 rest :: k) (some 11) env) ∧
  (regS P I next stop o16_13 2 rest k env S = bindS next (op1 P (evalV I env) S (.alloc 34)) (.inRegion o16_13 rest :: k) (some 5) env) ∧
  (regS P I next stop o16_13 3 rest k env S = bindS next (op1 P (evalV I env) S (.store 34 (.tmp 5) (.tmp 11))) (.inRegion o16_13 rest :: k) none env) ∧
  (regS P I next stop o16_15 0 rest k env S = bindS next (op1 P (evalV I env) S (.move (.tmp 0))) (.inRegion o16_15 rest :: k) (some 12) env) ∧
  (regS P I next stop o16_15 1 rest k env S = bindS next (op1 P (evalV I env) S (.nilCheck (.tmp 12))) (.inRegion o16_15 rest :: k) (some 13) env) ∧
  (regS P I next stop o16_15 2 rest k env S = bindS next (op1 P (evalV I env) S (.fieldAddr 49 (.tmp 13) 0)) (.inRegion o16_15 rest :: k) (some 14) env) ∧
  (regS P I next stop o16_15 3 rest k env S = bindS next (op1 P (evalV I env) S (.load 3 (.tmp 14))) (.inRegion o16_15 rest :: k) (some 15) env) ∧
  (regS P I next stop o16_15 4 rest k env S = bindS next (op1 P (evalV I env) S (.binOp .add 3 (.tmp 15) (.const (.int .i64 1)) 3)) (.inRegion o16_15 rest :: k) (some 16) env) ∧
  (regS P I next stop o16_15 5 rest k env S = bindS next (op1 P (evalV I env) S (.nilCheck (.tmp 12))) (.inRegion o16_15 rest :: k) (some 17) env) ∧
  (regS P I next stop o16_15 6 rest k env S = bindS next (op1 P (evalV I env) S (.fieldAddr 49 (.tmp 17) 0)) (.inRegion o16_15 rest :: k) (some 18) env) ∧
  (regS P I next stop o16_15 7 rest k env S = bindS next (op1 P (evalV I env) S (.store 3 (.tmp 18) (.tmp 16))) (.inRegion o16_15 rest :: k) none env) ∧
  (regS P I next stop o16_16 0 rest k env S = bindS next (op1 P (evalV I env) S (.move (.tmp 0))) (.inRegion o16_16 rest :: k) (some 19) env) ∧
  (regS P I next stop o16_16 1 rest k env S = bindS next (op1 P (evalV I env) S (.fieldAddr 34 (.tmp 5) 2)) (.inRegion o16_16 rest :: k) (some 20) env) ∧
  (regS P I next stop o16_16 2 rest k env S = bindS next (op1 P (evalV I env) S (.load 32 (.tmp 20))) (.inRegion o16_16 rest :: k) (some 21) env) ∧
  (regS P I next stop o16_16 3 rest k env S = callS P I stop (evalV I env (.func 16)) [evalV I env (.tmp 19), evalV I env (.tmp 21)] (.inRegion o16_16 rest :: k) (some 22) env S) ∧
  (regS P I next stop o16_17 0 rest k env S = bindS next (op1 P (evalV I env) S (.binOp .add 3 (.tmp 8) (.const (.int .i64 1)) 3)) (.inRegion o16_17 rest :: k) (some 23) env) ∧
  (regS P I next stop o16_17 1 rest k env S = bindS next (op1 P (evalV I env) S (.move (.tmp 23))) (.inRegion o16_17 rest :: k) (some 8) env) := by
  repeat' apply And.intro
  all_goals kernel_rfl
set_option linter.defProp false in
/-- All of these. -/
def c16 := And.intro @c16s (@c16r)
noncomputable def k42_0 : Code := bodyOf Tryd.f42
noncomputable def k42_1 : Code := lft k42_0
noncomputable def o42_1 : Array Oper := opsOf k42_1
noncomputable def k42_2 : Code := rgt k42_0
noncomputable def k42_3 : Code := lft k42_2
noncomputable def k42_4 : Code := lft k42_3
noncomputable def k42_5 : Code := lft k42_4
noncomputable def o42_5 : Array Oper := opsOf k42_5
noncomputable def k42_6 : Code := rgt k42_4
noncomputable def k42_7 : Code := lft k42_6
noncomputable def k42_8 : Code := lft k42_7
noncomputable def k42_9 : Code := rgt k42_7
noncomputable def k42_10 : Code := rgt k42_6
noncomputable def k42_11 : Code := lft k42_10
noncomputable def k42_12 : Code := lft k42_11
noncomputable def k42_13 : Code := lft k42_12
noncomputable def o42_13 : Array Oper := opsOf k42_13
noncomputable def k42_14 : Code := rgt k42_12
noncomputable def k42_15 : Code := lft k42_14
noncomputable def o42_15 : Array Oper := opsOf k42_15
noncomputable def k42_16 : Code := rgt k42_14
noncomputable def k42_17 : Code := lft k42_16
noncomputable def k42_18 : Code := lft k42_17
noncomputable def o42_18 : Array Oper := opsOf k42_18
noncomputable def k42_19 : Code := rgt k42_17
noncomputable def k42_20 : Code := lft k42_19
noncomputable def o42_20 : Array Oper := opsOf k42_20
noncomputable def k42_21 : Code := rgt k42_19
noncomputable def k42_22 : Code := rgt k42_16
noncomputable def k42_23 : Code := lft k42_22
noncomputable def o42_23 : Array Oper := opsOf k42_23
noncomputable def k42_24 : Code := rgt k42_22
noncomputable def k42_25 : Code := lft k42_24
noncomputable def o42_25 : Array Oper := opsOf k42_25
noncomputable def k42_26 : Code := rgt k42_24
noncomputable def k42_27 : Code := rgt k42_10
noncomputable def o42_27 : Array Oper := opsOf k42_27
theorem c42s (I : Inv) (next stop : Cont) (k : List Item) (env : List V) (S : Mem) : (codeS I next stop k42_1 k env S = next (.inRegion o42_1 [0, 1, 2] :: k) env S) ∧
  (codeS I next stop k42_5 k env S = next (.inRegion o42_5 [0] :: k) env S) ∧
  (codeS I next stop k42_8 k env S = next k env S) ∧
  (codeS I next stop k42_9 k env S = exitV next (exitTo 0 k) env S) ∧
  (codeS I next stop k42_7 k env S = condV next (evalV I env (.tmp 9)) k42_8 k42_9 k env S) ∧
  (codeS I next stop k42_13 k env S = next (.inRegion o42_13 [0, 1, 2, 3] :: k) env S) ∧
  (codeS I next stop k42_15 k env S = next (.inRegion o42_15 [0, 1, 2, 3, 4, 5, 6, 7] :: k) env S) ∧
  (codeS I next stop k42_18 k env S = next (.inRegion o42_18 [0, 1, 2, 3] :: k) env S) ∧
  (codeS I next stop k42_20 k env S = next (.inRegion o42_20 [0, 1, 2, 3, 4] :: k) env S) ∧
  (codeS I next stop k42_21 k env S = next k env S) ∧
  (codeS I next stop k42_19 k env S = condV next (evalV I env (.tmp 22)) k42_20 k42_21 k env S) ∧
  (codeS I next stop k42_17 k env S = next (.code k42_18 :: .code k42_19 :: k) env S) ∧
  (codeS I next stop k42_23 k env S = next (.inRegion o42_23 [0, 1, 2, 3, 4] :: k) env S) ∧
  (codeS I next stop k42_25 k env S = next (.inRegion o42_25 [0, 1, 2, 3] :: k) env S) ∧
  (codeS I next stop k42_26 k env S = next k env S) ∧
  (codeS I next stop k42_24 k env S = condV next (evalV I env (.tmp 32)) k42_25 k42_26 k env S) ∧
  (codeS I next stop k42_22 k env S = next (.code k42_23 :: .code k42_24 :: k) env S) ∧
  (codeS I next stop k42_16 k env S = next (.code k42_17 :: .code k42_22 :: k) env S) ∧
  (codeS I next stop k42_14 k env S = next (.code k42_15 :: .code k42_16 :: k) env S) ∧
  (codeS I next stop k42_12 k env S = next (.code k42_13 :: .code k42_14 :: k) env S) ∧
  (codeS I next stop k42_11 k env S = next (.code k42_12 :: .inBlock 1 :: k) env S) ∧
  (codeS I next stop k42_27 k env S = next (.inRegion o42_27 [0, 1] :: k) env S) ∧
  (codeS I next stop k42_10 k env S = next (.code k42_11 :: .code k42_27 :: k) env S) ∧
  (codeS I next stop k42_6 k env S = next (.code k42_7 :: .code k42_10 :: k) env S) ∧
  (codeS I next stop k42_4 k env S = next (.code k42_5 :: .code k42_6 :: k) env S) ∧
  (codeS I next stop k42_3 k env S = stop (.code (.loop k42_4) :: k) env S) ∧
  (codeS I next stop k42_2 k env S = next (.code k42_3 :: .inBlock 0 :: k) env S) ∧
  (codeS I next stop k42_0 k env S = next (.code k42_1 :: .code k42_2 :: k) env S) := by
  repeat' apply And.intro
  all_goals kernel_rfl
theorem c42r (P : Program) (I : Inv) (next stop : Cont) (rest : List Nat) (k : List Item) (env : List V) (S : Mem) : (regS P I next stop o42_1 0 rest k env S = bindS next (op1 P (evalV I env) S (.move (.tmp 1))) (.inRegion o42_1 rest :: k) (some 6) env) ∧
  (regS P I next stop o42_1 1 rest k env S = bindS next (opCall P (evalV I env) S { callee := .builtin .len, args := #[.tmp 6], argTypes := #[36] }) (.inRegion o42_1 rest :: k) (some 7) env) ∧
  (regS P I next stop o42_1 2 rest k env S = bindS next (op1 P (evalV I env) S (.move (.const (.int .i64 0)))) (.inRegion o42_1 rest :: k) (some 8) env) ∧
  (regS P I next stop o42_5 0 rest k env S = bindS next (op1 P (evalV I env) S (.binOp .lss 3 (.tmp 8) (.tmp 7) 3)) (.inRegion o42_5 rest :: k) (some 9) env) ∧
  (regS P I next stop o42_13 0 rest k env S = bindS next (op1 P (evalV I env) S (.indexAddr 36 (.tmp 6) (.tmp 8))) (.inRegion o42_13 rest :: k) (some 10) env) ∧
  (regS P I next stop o42_13 1 rest k env S = bindS next (op1 P (evalV I env) S (.load 38 (.tmp 10))) (.inRegion o42_13 rest :: k) (some 11) env) ∧
  (regS P I next stop o42_13 2 rest k env S = bindS next (op1 P (evalV I env) S (.alloc 38)) (.inRegion o42_13 rest :: k) (some 5) env) ∧
  (regS P I next stop o42_13 3 rest k env S = bindS next (op1 P (evalV I env) S (.store 38 (.tmp 5) (.tmp 11))) (.inRegion o42_13 rest :: k) none env) ∧
  (regS P I next stop o42_15 0 rest k env S = bindS next (op1 P (evalV I env) S (.move (.tmp 0))) (.inRegion o42_15 rest :: k) (some 12) env) ∧
  (regS P I next stop o42_15 1 rest k env S = bindS next (op1 P (evalV I env) S (.nilCheck (.tmp 12))) (.inRegion o42_15 rest :: k) (some 13) env) ∧
  (regS P I next stop o42_15 2 rest k env S = bindS next (op1 P (evalV I env) S (.fieldAddr 49 (.tmp 13) 0)) (.inRegion o42_15 rest :: k) (some 14) env) ∧
  (regS P I next stop o42_15 3 rest k env S = bindS next (op1 P (evalV I env) S (.load 3 (.tmp 14))) (.inRegion o42_15 rest :: k) (some 15) env) ∧
  (regS P I next stop o42_15 4 rest k env S = bindS next (op1 P (evalV I env) S (.binOp .add 3 (.tmp 15) (.const (.int .i64 1)) 3)) (.inRegion o42_15 rest :: k) (some 16) env) ∧
  (regS P I next stop o42_15 5 rest k env S = bindS next (op1 P (evalV I env) S (.nilCheck (.tmp 12))) (.inRegion o42_15 rest :: k) (some 17) env) ∧
  (regS P I next stop o42_15 6 rest k env S = bindS next (op1 P (evalV I env) S (.fieldAddr 49 (.tmp 17) 0)) (.inRegion o42_15 rest :: k) (some 18) env) ∧
  (regS P I next stop o42_15 7 rest k env S = bindS next (op1 P (evalV I env) S (.store 3 (.tmp 18) (.tmp 16))) (.inRegion o42_15 rest :: k) none env) ∧
  (regS P I next stop o42_18 0 rest k env S = bindS next (op1 P (evalV I env) S (.fieldAddr 38 (.tmp 5) 3)) (.inRegion o42_18 rest :: k) (some 19) env) ∧
  (regS P I next stop o42_18 1 rest k env S = bindS next (op1 P (evalV I env) S (.load 34 (.tmp 19))) (.inRegion o42_18 rest :: k) (some 20) env) ∧
  (regS P I next stop o42_18 2 rest k env S = callS P I stop (evalV I env (.func 41)) [evalV I env (.tmp 20)] (.inRegion o42_18 rest :: k) (some 21) env S) ∧
  (regS P I next stop o42_18 3 rest k env S = bindS next (op1 P (evalV I env) S (.unOp .not 4 (.tmp 21))) (.inRegion o42_18 rest :: k) (some 22) env) ∧
  (regS P I next stop o42_20 0 rest k env S = bindS next (op1 P (evalV I env) S (.move (.tmp 0))) (.inRegion o42_20 rest :: k) (some 23) env) ∧
  (regS P I next stop o42_20 1 rest k env S = bindS next (op1 P (evalV I env) S (.fieldAddr 38 (.tmp 5) 3)) (.inRegion o42_20 rest :: k) (some 24) env) ∧
  (regS P I next stop o42_20 2 rest k env S = bindS next (op1 P (evalV I env) S (.load 34 (.tmp 24))) (.inRegion o42_20 rest :: k) (some 25) env) ∧
  (regS P I next stop o42_20 3 rest k env S = bindS next (op1 P (evalV I env) S (.buildSlice 32 1 #[(0, .tmp 25)])) (.inRegion o42_20 rest :: k) (some 26) env) ∧
  (regS P I next stop o42_20 4 rest k env S = callS P I stop (evalV I env (.func 16)) [evalV I env (.tmp 23), evalV I env (.tmp 26)] (.inRegion o42_20 rest :: k) (some 27) env S) ∧
  (regS P I next stop o42_23 0 rest k env S = bindS next (op1 P (evalV I env) S (.move (.tmp 0))) (.inRegion o42_23 rest :: k) (some 28) env) ∧
  (regS P I next stop o42_23 1 rest k env S = bindS next (op1 P (evalV I env) S (.nilCheck (.tmp 28))) (.inRegion o42_23 rest :: k) (some 29) env) ∧
  (regS P I next stop o42_23 2 rest k env S = bindS next (op1 P (evalV I env) S (.fieldAddr 49 (.tmp 29) 0)) (.inRegion o42_23 rest :: k) (some 30) env) ∧
  (regS P I next stop o42_23 3 rest k env S = bindS next (op1 P (evalV I env) S (.load 3 (.tmp 30))) (.inRegion o42_23 rest :: k) (some 31) env) ∧
  (regS P I next stop o42_23 4 rest k env S = bindS next (op1 P (evalV I env) S (.binOp .leq 3 (.tmp 31) (.const (.int .i64 60000)) 3)) (.inRegion o42_23 rest :: k) (some 32) env) ∧
  (regS P I next stop o42_25 0 rest k env S = bindS next (op1 P (evalV I env) S (.move (.tmp 0))) (.inRegion o42_25 rest :: k) (some 33) env) ∧
  (regS P I next stop o42_25 1 rest k env S = bindS next (op1 P (evalV I env) S (.fieldAddr 38 (.tmp 5) 5)) (.inRegion o42_25 rest :: k) (some 34) env) ∧
  (regS P I next stop o42_25 2 rest k env S = bindS next (op1 P (evalV I env) S (.load 36 (.tmp 34))) (.inRegion o42_25 rest :: k) (some 35) env) ∧
  (regS P I next stop o42_25 3 rest k env S = callS P I stop (evalV I env (.func 42)) [evalV I env (.tmp 33), evalV I env (.tmp 35)] (.inRegion o42_25 rest :: k) (some 36) env S) ∧
  (regS P I next stop o42_27 0 rest k env S = bindS next (op1 P (evalV I env) S (.binOp .add 3 (.tmp 8) (.const (.int .i64 1)) 3)) (.inRegion o42_27 rest :: k) (some 37) env) ∧
  (regS P I next stop o42_27 1 rest k env S = bindS next (op1 P (evalV I env) S (.move (.tmp 37))) (.inRegion o42_27 rest :: k) (some 8) env) := by
  repeat' apply And.intro
  all_goals kernel_rfl
set_option linter.defProp false in
/-- All of these. -/
def c42 := And.intro @c42s (@c42r)
noncomputable def k15_0 : Code := bodyOf Tryd.f15
noncomputable def k15_1 : Code := lft k15_0
noncomputable def o15_1 : Array Oper := opsOf k15_1
noncomputable def k15_2 : Code := rgt k15_0
noncomputable def k15_3 : Code := lft k15_2
noncomputable def k15_4 : Code := lft k15_3
noncomputable def k15_5 : Code := lft k15_4
noncomputable def o15_5 : Array Oper := opsOf k15_5
noncomputable def k15_6 : Code := rgt k15_4
noncomputable def k15_7 : Code := lft k15_6
noncomputable def k15_8 : Code := lft k15_7
noncomputable def k15_9 : Code := rgt k15_7
noncomputable def k15_10 : Code := rgt k15_6
noncomputable def k15_11 : Code := lft k15_10
noncomputable def k15_12 : Code := lft k15_11
noncomputable def k15_13 : Code := lft k15_12
noncomputable def o15_13 : Array Oper := opsOf k15_13
noncomputable def k15_14 : Code := rgt k15_12
noncomputable def k15_15 : Code := lft k15_14
noncomputable def o15_15 : Array Oper := opsOf k15_15
noncomputable def k15_16 : Code := rgt k15_14
noncomputable def o15_16 : Array Oper := opsOf k15_16
noncomputable def k15_17 : Code := rgt k15_10
noncomputable def o15_17 : Array Oper := opsOf k15_17
theorem c15s (I : Inv) (next stop : Cont) (k : List Item) (env : List V) (S : Mem) : (codeS I next stop k15_1 k env S = next (.inRegion o15_1 [0, 1, 2] :: k) env S) ∧
  (codeS I next stop k15_5 k env S = next (.inRegion o15_5 [0] :: k) env S) ∧
  (codeS I next stop k15_8 k env S = next k env S) ∧
  (codeS I next stop k15_9 k env S = exitV next (exitTo 0 k) env S) ∧
  (codeS I next stop k15_7 k env S = condV next (evalV I env (.tmp 9)) k15_8 k15_9 k env S) ∧
  (codeS I next stop k15_13 k env S = next (.inRegion o15_13 [0, 1, 2, 3] :: k) env S) ∧
  (codeS I next stop k15_15 k env S = next (.inRegion o15_15 [0, 1, 2, 3, 4, 5, 6, 7] :: k) env S) ∧
  (codeS I next stop k15_16 k env S = next (.inRegion o15_16 [0, 1, 2, 3, 4] :: k) env S) ∧
  (codeS I next stop k15_14 k env S = next (.code k15_15 :: .code k15_16 :: k) env S) ∧
  (codeS I next stop k15_12 k env S = next (.code k15_13 :: .code k15_14 :: k) env S) ∧
  (codeS I next stop k15_11 k env S = next (.code k15_12 :: .inBlock 1 :: k) env S) ∧
  (codeS I next stop k15_17 k env S = next (.inRegion o15_17 [0, 1] :: k) env S) ∧
  (codeS I next stop k15_10 k env S = next (.code k15_11 :: .code k15_17 :: k) env S) ∧
  (codeS I next stop k15_6 k env S = next (.code k15_7 :: .code k15_10 :: k) env S) ∧
  (codeS I next stop k15_4 k env S = next (.code k15_5 :: .code k15_6 :: k) env S) ∧
  (codeS I next stop k15_3 k env S = stop (.code (.loop k15_4) :: k) env S) ∧
  (codeS I next stop k15_2 k env S = next (.code k15_3 :: .inBlock 0 :: k) env S) ∧
  (codeS I next stop k15_0 k env S = next (.code k15_1 :: .code k15_2 :: k) env S) := by
  repeat' apply And.intro
  all_goals kernel_rfl
theorem c15r (P : Program) (I : Inv) (next stop : Cont) (rest : List Nat) (k : List Item) (env : List V) (S : Mem) : (regS P I next stop o15_1 0 rest k env S = bindS next (op1 P (evalV I env) S (.move (.tmp 1))) (.inRegion o15_1 rest :: k) (some 6) env) ∧
  (regS P I next stop o15_1 1 rest k env S = bindS next (opCall P (evalV I env) S { callee := .builtin .len, args := #[.tmp 6], argTypes := #[50] }) (.inRegion o15_1 rest :: k) (some 7) env) ∧
  (regS P I next stop o15_1 2 rest k env S = bindS next (op1 P (evalV I env) S (.move (.const (.int .i64 0)))) (.inRegion o15_1 rest :: k) (some 8) env) ∧
  (regS P I next stop o15_5 0 rest k env S = bindS next (op1 P (evalV I env) S (.binOp .lss 3 (.tmp 8) (.tmp 7) 3)) (.inRegion o15_5 rest :: k) (some 9) env) ∧
  (regS P I next stop o15_13 0 rest k env S = bindS next (op1 P (evalV I env) S (.indexAddr 50 (.tmp 6) (.tmp 8))) (.inRegion o15_13 rest :: k) (some 10) env) ∧
  (regS P I next stop o15_13 1 rest k env S = bindS next (op1 P (evalV I env) S (.load 60 (.tmp 10))) (.inRegion o15_13 rest :: k) (some 11) env) ∧
  (regS P I next stop o15_13 2 rest k env S = bindS next (op1 P (evalV I env) S (.alloc 60)) (.inRegion o15_13 rest :: k) (some 5) env) ∧
  (regS P I next stop o15_13 3 rest k env S = bindS next (op1 P (evalV I env) S (.store 60 (.tmp 5) (.tmp 11))) (.inRegion o15_13 rest :: k) none env) ∧
  (regS P I next stop o15_15 0 rest k env S = bindS next (op1 P (evalV I env) S (.move (.tmp 0))) (.inRegion o15_15 rest :: k) (some 12) env) ∧
  (regS P I next stop o15_15 1 rest k env S = bindS next (op1 P (evalV I env) S (.nilCheck (.tmp 12))) (.inRegion o15_15 rest :: k) (some 13) env) ∧
  (regS P I next stop o15_15 2 rest k env S = bindS next (op1 P (evalV I env) S (.fieldAddr 49 (.tmp 13) 0)) (.inRegion o15_15 rest :: k) (some 14) env) ∧
  (regS P I next stop o15_15 3 rest k env S = bindS next (op1 P (evalV I env) S (.load 3 (.tmp 14))) (.inRegion o15_15 rest :: k) (some 15) env) ∧
  (regS P I next stop o15_15 4 rest k env S = bindS next (op1 P (evalV I env) S (.binOp .add 3 (.tmp 15) (.const (.int .i64 1)) 3)) (.inRegion o15_15 rest :: k) (some 16) env) ∧
  (regS P I next stop o15_15 5 rest k env S = bindS next (op1 P (evalV I env) S (.nilCheck (.tmp 12))) (.inRegion o15_15 rest :: k) (some 17) env) ∧
  (regS P I next stop o15_15 6 rest k env S = bindS next (op1 P (evalV I env) S (.fieldAddr 49 (.tmp 17) 0)) (.inRegion o15_15 rest :: k) (some 18) env) ∧
  (regS P I next stop o15_15 7 rest k env S = bindS next (op1 P (evalV I env) S (.store 3 (.tmp 18) (.tmp 16))) (.inRegion o15_15 rest :: k) none env) ∧
  (regS P I next stop o15_16 0 rest k env S = bindS next (op1 P (evalV I env) S (.move (.tmp 0))) (.inRegion o15_16 rest :: k) (some 19) env) ∧
  (regS P I next stop o15_16 1 rest k env S = bindS next (op1 P (evalV I env) S (.fieldAddr 60 (.tmp 5) 1)) (.inRegion o15_16 rest :: k) (some 20) env) ∧
  (regS P I next stop o15_16 2 rest k env S = bindS next (op1 P (evalV I env) S (.load 34 (.tmp 20))) (.inRegion o15_16 rest :: k) (some 21) env) ∧
  (regS P I next stop o15_16 3 rest k env S = bindS next (op1 P (evalV I env) S (.buildSlice 32 1 #[(0, .tmp 21)])) (.inRegion o15_16 rest :: k) (some 22) env) ∧
  (regS P I next stop o15_16 4 rest k env S = callS P I stop (evalV I env (.func 16)) [evalV I env (.tmp 19), evalV I env (.tmp 22)] (.inRegion o15_16 rest :: k) (some 23) env S) ∧
  (regS P I next stop o15_17 0 rest k env S = bindS next (op1 P (evalV I env) S (.binOp .add 3 (.tmp 8) (.const (.int .i64 1)) 3)) (.inRegion o15_17 rest :: k) (some 24) env) ∧
  (regS P I next stop o15_17 1 rest k env S = bindS next (op1 P (evalV I env) S (.move (.tmp 24))) (.inRegion o15_17 rest :: k) (some 8) env) := by
  repeat' apply And.intro
  all_goals kernel_rfl
set_option linter.defProp false in
/-- All of these. -/
def c15 := And.intro @c15s (@c15r)

mutual
theorem tcS_pos : ∀ t : TyT, 1 ≤ tcS t
  | .mk _ _ es => by
    have := tcsS_pos es
    rw [tcS]; omega
theorem tcsS_pos : ∀ l : List TyT, 0 ≤ tcsS l
  | [] => by rw [tcsS]; omega
  | t :: l => by
    have h1 := tcS_pos t
    have h2 := tcsS_pos l
    rw [tcsS]; omega
end
theorem tcsS_sum : ∀ l : List TyT, tcsS l = sumS tcS l
  | [] => by rw [tcsS]; rfl
  | t :: l => by rw [tcsS, tcsS_sum l]; rfl
theorem tcS_elem (t : TyT) : tcS t = 1 + sumS tcS t.elem := by
  cases t
  rw [tcS, tcsS_sum]
  rfl
theorem sumS_pos {α : Type} {c : α → Int} (h : ∀ x, 0 ≤ c x) : ∀ l : List α, 0 ≤ sumS c l
  | [] => Int.le_refl _
  | x :: l => by
    have h1 := h x
    have h2 := sumS_pos h l
    show 0 ≤ c x + sumS c l
    omega
theorem tcS_nn (t : TyT) : 0 ≤ tcS t := by have := tcS_pos t; omega
mutual
theorem ecS_pos : ∀ t : ExT, 1 ≤ ecS t
  | .mk _ _ _ ty _ es => by
    have := ecsS_pos es
    have h2 := tcS_nn ty
    rw [ecS]
    split <;> omega
theorem ecsS_pos : ∀ l : List ExT, 0 ≤ ecsS l
  | [] => by rw [ecsS]; omega
  | t :: l => by
    have h1 := ecS_pos t
    have h2 := ecsS_pos l
    rw [ecsS]; omega
end
theorem ecS_kids (t : ExT) : ecS t = 1 + (if zeroS t.type = true then 0 else tcS t.type) + ecsS t.kids := by
  cases t
  rw [ecS]
  rfl
theorem paC_pos (l : List PaT) : 0 ≤ paC l := sumS_pos (fun x => by have := tcS_nn x.type; omega) l
theorem sl_plain2 {P : Program} {I : Inv} {f : FuncId} {a : V} {rows : List (List D)} {tk : Tok} {S : Mem} {R : V → Mem → Prop} (h : AFn P I f [a, .d (.sl rows)] S R) : AFn P I f [a, .sl rows tk] S R :=
  ⟨h.1, fun c w xs h1 h2 h3 hI => h.2 c w xs h1 (fun j hj => by
    match j, hj with
    | 0, _ => exact h2 0 (by simp)
    | 1, _ => exact vr_plain (h2 1 (by simp))) h3 hI⟩

def CTy (l : List TyT) : Prop := ∀ (c : Nat) (p : Int) (B : List (List V)) (T : List (Nat × Nat)), B[c]? = some [.d (.int .i64 p)] → 0 ≤ p → p + sumS tcS l ≤ 60000 →
    AFn Tryd.prog TabI 16 [.ptr c 0, .d (.sl (l.map tyD))] ⟨B, T⟩ (Same (.tup []) ⟨B.set c [.d (.int .i64 (p + sumS tcS l))], T⟩)
set_option maxHeartbeats 1000000 in
theorem ctyp_step (l : List TyT) (h : ∀ x ∈ l, CTy x.elem) : CTy l := by
  intro c p B T hB hp hle
  obtain ⟨N, hn⟩ : ∃ N, B.length = N := ⟨_, rfl⟩
  have hc := (List.getElem?_eq_some_iff.1 hB).1
  have hi : c < N := by omega
  have hbs : B.set c [.d (.int .i64 p)] = B := by
    obtain ⟨_, h⟩ := List.getElem?_eq_some_iff.1 hB
    rw [← h, List.set_getElem_self]
  generalize hres : p + sumS tcS l = res at hle ⊢
  refine AFn.bodyE (body := k16_0) 24 Tryd.func16 (by kernel_rfl) (by kernel_rfl) (by kernel_rfl) (Nat.le_of_ble_eq_true rfl) fun hsm => ?_
  simp only [smL, sm, exV, stV, tyV, caV, paV, suV, fuV, prV, Bool.and_eq_true, decide_eq_true_eq, and_true, true_and, List.length_map, ssD_length] at hsm
  refine ARun.go 10 ?_
  simp -implicitDefEqProofs only [awC, awN, Nat.reduceAdd, Nat.reduceSub, Nat.reduceLT, Nat.reduceLeDiff, Nat.reduceEqDiff, Int.reduceToNat, Int.reduceEq, Int.reduceLT, Int.reduceLE, Int.reduceNeg, Int.reduceAdd, Int.reduceSub, Nat.reduceBEq, awT, c16, tys, hn, hi]
  refine ARun.fits fun hf => ?_
  refine ARun.loopB (fun a : Nat × Int => (envS 24 [(0, .ptr c 0), (6, .d (.sl (l.map tyD))), (7, .d (.int .i64 l.length)), (8, .d (.int .i64 a.1))], ⟨B.set c [.d (.int .i64 a.2)], T⟩)) (fun a => a.1 ≤ l.length ∧ 0 ≤ a.2 ∧ a.2 + sumS tcS (l.drop a.1) = res) (fun a => l.length - a.1) (0, p) ⟨by omega, hp, hres⟩ ?_ (by rw [hbs]) ?_
  · skip
    refine Agree.env _ ?_
    simp only [agree_cons, agree_nil, eq_self, and_self, true_and, and_true, Int.natCast_add, Int.natCast_one, Int.natCast_zero, envS_get, envS_eval, lk_cons, lk_nil, Nat.reduceBEq, Nat.reduceAdd, Nat.reduceSub, cond_true, cond_false, hn]
  rintro ⟨i, q⟩ ⟨h1, h2, h3⟩ ih
  dsimp only at h1 h2 h3 ih ⊢
  by_cases hlt : i < l.length
  · have hw := wrap_in ((i : Int) + 1) (by omega)
    have hlt' : decide ((i : Int) < (l.length : Int)) = true := decide_eq_true (by omega)
    have hg := List.getElem?_eq_getElem hlt
    have hcx := h l[i] (List.getElem_mem hlt)
    rw [drop_get hlt] at h3
    obtain ⟨x, hx⟩ : ∃ x, l[i] = x := ⟨_, rfl⟩
    rw [hx] at hg h3 hcx
    change q + (tcS x + sumS tcS (l.drop (i + 1))) = res at h3
    have hx1 := tcS_elem x
    have hx2 := sumS_pos tcS_nn x.elem
    have hx3 := sumS_pos tcS_nn (l.drop (i + 1))
    have hwq := wrap_in (q + 1) (by omega)
    refine ARun.go 200 ?_
    simp -implicitDefEqProofs only [awC, awN, Nat.reduceAdd, Nat.reduceSub, Nat.reduceLT, Nat.reduceLeDiff, Nat.reduceEqDiff, Int.reduceToNat, Int.reduceEq, Int.reduceLT, Int.reduceLE, Int.reduceNeg, Int.reduceAdd, Int.reduceSub, Nat.reduceBEq, awT, c16, tys, hn, hi, List.getElem?_map, hg, hlt', hwq, tyD_eq]
    refine callS_fn (hcx c (q + 1) _ T (by rw [bx_old (by simp; omega)]; exact bx_get hc) (by omega) (by omega)) ?_
    rintro _ _ ⟨rfl, rfl⟩
    refine ARun.go 200 ?_
    simp -implicitDefEqProofs only [awC, awN, Nat.reduceAdd, Nat.reduceSub, Nat.reduceLT, Nat.reduceLeDiff, Nat.reduceEqDiff, Int.reduceToNat, Int.reduceEq, Int.reduceLT, Int.reduceLE, Int.reduceNeg, Int.reduceAdd, Int.reduceSub, Nat.reduceBEq, awT, c16, tys, hn, hi, hw]
    refine ih (i + 1, q + 1 + sumS tcS x.elem) ⟨hlt, by dsimp only; omega, by dsimp only; omega⟩ (by dsimp only; omega) _ _ _ _ rfl ⟨by simp; omega, Nat.le_refl _⟩ (hf.set rfl) ?_
    refine AgreeF.env _ ?_
    simp only [agreeF_cons, agreeF_nil, fit, fitL, eq_self, and_self, true_and, and_true, Bool.and_true, Bool.true_and, Bool.and_self, decide_true, List.length_set, Int.natCast_add, Int.natCast_one, Int.natCast_zero, envS_get, envS_eval, lk_cons, lk_nil, Nat.reduceBEq, Nat.reduceAdd, Nat.reduceSub, cond_true, cond_false, hn, hi]
  · have hlt' : decide ((i : Int) < (l.length : Int)) = false := decide_eq_false (by omega)
    rw [List.drop_eq_nil_of_le (by omega)] at h3
    change q + 0 = res at h3
    refine ARun.go 200 ?_
    simp -implicitDefEqProofs only [awC, awN, Nat.reduceAdd, Nat.reduceSub, Nat.reduceLT, Nat.reduceLeDiff, Nat.reduceEqDiff, Int.reduceToNat, Int.reduceEq, Int.reduceLT, Int.reduceLE, Int.reduceNeg, Int.reduceAdd, Int.reduceSub, Nat.reduceBEq, awT, c16, tys, hn, hi, hlt']
    refine ARun.fin Tryd.func16 rfl (Left.set0 rfl ?_)
    rw [← h3, Int.add_zero]
    exact ⟨rfl, rfl⟩
mutual
theorem ctyp_one : ∀ t : TyT, CTy t.elem
  | .mk _ _ es => ctyp_step es (ctyp_all es)
theorem ctyp_all : ∀ l : List TyT, ∀ x ∈ l, CTy x.elem
  | [], _, h => absurd h List.not_mem_nil
  | y :: l, x, h => by
    rcases List.mem_cons.1 h with e | e
    · rw [e]; exact ctyp_one y
    · exact ctyp_all l x e
end
theorem ctyp_ab (l : List TyT) : CTy l := ctyp_step l (ctyp_all l)
/-- One type, in a slice made for it. -/
theorem ctyp1_ab (t : TyT) (c : Nat) (p : Int) (B : List (List V)) (T : List (Nat × Nat)) (tk : Tok) (hB : B[c]? = some [.d (.int .i64 p)]) (hp : 0 ≤ p) (hle : p + tcS t ≤ 60000) :
    AFn Tryd.prog TabI 16 [.ptr c 0, .sl [[.int .i64 t.kind, .str t.name, .sl (t.elem.map tyD)]] tk] ⟨B, T⟩ (Same (.tup []) ⟨B.set c [.d (.int .i64 (p + tcS t))], T⟩) := by
  have h := ctyp_ab [t] c p B T hB hp (by show p + (tcS t + 0) ≤ 60000; omega)
  have e : p + sumS tcS [t] = p + tcS t := by show p + (tcS t + 0) = p + tcS t; omega
  rw [e, List.map_cons, List.map_nil, tyD_eq] at h
  exact sl_plain2 h
set_option maxHeartbeats 1000000 in
theorem cparams_ab (l : List PaT) (c : Nat) (p : Int) (B : List (List V)) (T : List (Nat × Nat)) (hB : B[c]? = some [.d (.int .i64 p)]) (hp : 0 ≤ p) (hle : p + paC l ≤ 60000) :
    AFn Tryd.prog TabI 15 [.ptr c 0, .d (.sl (l.map paD))] ⟨B, T⟩ (Same (.tup []) ⟨B.set c [.d (.int .i64 (p + paC l))], T⟩) := by
  obtain ⟨N, hn⟩ : ∃ N, B.length = N := ⟨_, rfl⟩
  have hc := (List.getElem?_eq_some_iff.1 hB).1
  have hi : c < N := by omega
  have hbs : B.set c [.d (.int .i64 p)] = B := by
    obtain ⟨_, h⟩ := List.getElem?_eq_some_iff.1 hB
    rw [← h, List.set_getElem_self]
  generalize hres : p + paC l = res at hle ⊢
  refine AFn.bodyE (body := k15_0) 25 Tryd.func15 (by kernel_rfl) (by kernel_rfl) (by kernel_rfl) (Nat.le_of_ble_eq_true rfl) fun hsm => ?_
  simp only [smL, sm, exV, stV, tyV, caV, paV, suV, fuV, prV, Bool.and_eq_true, decide_eq_true_eq, and_true, true_and, List.length_map, ssD_length] at hsm
  refine ARun.go 10 ?_
  simp -implicitDefEqProofs only [awC, awN, Nat.reduceAdd, Nat.reduceSub, Nat.reduceLT, Nat.reduceLeDiff, Nat.reduceEqDiff, Int.reduceToNat, Int.reduceEq, Int.reduceLT, Int.reduceLE, Int.reduceNeg, Int.reduceAdd, Int.reduceSub, Nat.reduceBEq, awT, c15, tys, hn, hi]
  refine ARun.fits fun hf => ?_
  refine ARun.loopB (fun a : Nat × Int => (envS 25 [(0, .ptr c 0), (6, .d (.sl (l.map paD))), (7, .d (.int .i64 l.length)), (8, .d (.int .i64 a.1))], ⟨B.set c [.d (.int .i64 a.2)], T⟩)) (fun a => a.1 ≤ l.length ∧ 0 ≤ a.2 ∧ a.2 + paC (l.drop a.1) = res) (fun a => l.length - a.1) (0, p) ⟨by omega, hp, hres⟩ ?_ (by rw [hbs]) ?_
  · skip
    refine Agree.env _ ?_
    simp only [agree_cons, agree_nil, eq_self, and_self, true_and, and_true, Int.natCast_add, Int.natCast_one, Int.natCast_zero, envS_get, envS_eval, lk_cons, lk_nil, Nat.reduceBEq, Nat.reduceAdd, Nat.reduceSub, cond_true, cond_false, hn]
  rintro ⟨i, q⟩ ⟨h1, h2, h3⟩ ih
  dsimp only at h1 h2 h3 ih ⊢
  by_cases hlt : i < l.length
  · have hw := wrap_in ((i : Int) + 1) (by omega)
    have hlt' : decide ((i : Int) < (l.length : Int)) = true := decide_eq_true (by omega)
    have hg := List.getElem?_eq_getElem hlt
    rw [drop_get hlt] at h3
    obtain ⟨x, hx⟩ : ∃ x, l[i] = x := ⟨_, rfl⟩
    rw [hx] at hg h3
    change q + ((1 + tcS x.type) + paC (l.drop (i + 1))) = res at h3
    have hx2 := tcS_nn x.type
    have hx3 := paC_pos (l.drop (i + 1))
    have hwq := wrap_in (q + 1) (by omega)
    refine ARun.go 200 ?_
    simp -implicitDefEqProofs only [awC, awN, Nat.reduceAdd, Nat.reduceSub, Nat.reduceLT, Nat.reduceLeDiff, Nat.reduceEqDiff, Int.reduceToNat, Int.reduceEq, Int.reduceLT, Int.reduceLE, Int.reduceNeg, Int.reduceAdd, Int.reduceSub, Nat.reduceBEq, awT, c15, tys, hn, hi, List.getElem?_map, hg, hlt', hwq, paD_eq, mapD_nil, mapD_cons, Nat.reduceMul]
    refine callS_fn (ctyp1_ab x.type c (q + 1) _ T _ (by rw [bx_old (by simp; omega)]; exact bx_get hc) (by omega) (by omega)) ?_
    rintro _ _ ⟨rfl, rfl⟩
    refine ARun.go 200 ?_
    simp -implicitDefEqProofs only [awC, awN, Nat.reduceAdd, Nat.reduceSub, Nat.reduceLT, Nat.reduceLeDiff, Nat.reduceEqDiff, Int.reduceToNat, Int.reduceEq, Int.reduceLT, Int.reduceLE, Int.reduceNeg, Int.reduceAdd, Int.reduceSub, Nat.reduceBEq, awT, c15, tys, hn, hi, hw]
    refine ih (i + 1, q + 1 + tcS x.type) ⟨hlt, by dsimp only; omega, by dsimp only; omega⟩ (by dsimp only; omega) _ _ _ _ rfl ⟨by simp; omega, Nat.le_refl _⟩ (hf.set rfl) ?_
    refine AgreeF.env _ ?_
    simp only [agreeF_cons, agreeF_nil, fit, fitL, eq_self, and_self, true_and, and_true, Bool.and_true, Bool.true_and, Bool.and_self, decide_true, List.length_set, Int.natCast_add, Int.natCast_one, Int.natCast_zero, envS_get, envS_eval, lk_cons, lk_nil, Nat.reduceBEq, Nat.reduceAdd, Nat.reduceSub, cond_true, cond_false, hn, hi]
  · have hlt' : decide ((i : Int) < (l.length : Int)) = false := decide_eq_false (by omega)
    rw [List.drop_eq_nil_of_le (by omega)] at h3
    change q + 0 = res at h3
    refine ARun.go 200 ?_
    simp -implicitDefEqProofs only [awC, awN, Nat.reduceAdd, Nat.reduceSub, Nat.reduceLT, Nat.reduceLeDiff, Nat.reduceEqDiff, Int.reduceToNat, Int.reduceEq, Int.reduceLT, Int.reduceLE, Int.reduceNeg, Int.reduceAdd, Int.reduceSub, Nat.reduceBEq, awT, c15, tys, hn, hi, hlt']
    refine ARun.fin Tryd.func15 rfl (Left.set0 rfl ?_)
    rw [← h3, Int.add_zero]
    exact ⟨rfl, rfl⟩
def CEx (l : List ExT) : Prop := ∀ (c : Nat) (p : Int) (B : List (List V)) (T : List (Nat × Nat)), B[c]? = some [.d (.int .i64 p)] → 0 ≤ p → p + ecsS l ≤ 60000 →
    AFn Tryd.prog TabI 42 [.ptr c 0, .d (.sl (l.map exD))] ⟨B, T⟩ (Same (.tup []) ⟨B.set c [.d (.int .i64 (p + ecsS l))], T⟩)
set_option maxHeartbeats 2000000 in
theorem cexprs_step (l : List ExT) (h : ∀ x ∈ l, CEx x.kids) : CEx l := by
  intro c p B T hB hp hle
  obtain ⟨N, hn⟩ : ∃ N, B.length = N := ⟨_, rfl⟩
  have hc := (List.getElem?_eq_some_iff.1 hB).1
  have hi : c < N := by omega
  have hbs : B.set c [.d (.int .i64 p)] = B := by
    obtain ⟨_, h⟩ := List.getElem?_eq_some_iff.1 hB
    rw [← h, List.set_getElem_self]
  generalize hres : p + ecsS l = res at hle ⊢
  refine AFn.bodyE (body := k42_0) 38 Tryd.func42 (by kernel_rfl) (by kernel_rfl) (by kernel_rfl) (Nat.le_of_ble_eq_true rfl) fun hsm => ?_
  simp only [smL, sm, exV, stV, tyV, caV, paV, suV, fuV, prV, Bool.and_eq_true, decide_eq_true_eq, and_true, true_and, List.length_map, ssD_length] at hsm
  refine ARun.go 10 ?_
  simp -implicitDefEqProofs only [awC, awN, Nat.reduceAdd, Nat.reduceSub, Nat.reduceLT, Nat.reduceLeDiff, Nat.reduceEqDiff, Int.reduceToNat, Int.reduceEq, Int.reduceLT, Int.reduceLE, Int.reduceNeg, Int.reduceAdd, Int.reduceSub, Nat.reduceBEq, awT, c42, tys, hn, hi]
  refine ARun.fits fun hf => ?_
  refine ARun.loopB (fun a : Nat × Int => (envS 38 [(0, .ptr c 0), (6, .d (.sl (l.map exD))), (7, .d (.int .i64 l.length)), (8, .d (.int .i64 a.1))], ⟨B.set c [.d (.int .i64 a.2)], T⟩)) (fun a => a.1 ≤ l.length ∧ 0 ≤ a.2 ∧ a.2 + ecsS (l.drop a.1) = res) (fun a => l.length - a.1) (0, p) ⟨by omega, hp, hres⟩ ?_ (by rw [hbs]) ?_
  · skip
    refine Agree.env _ ?_
    simp only [agree_cons, agree_nil, eq_self, and_self, true_and, and_true, Int.natCast_add, Int.natCast_one, Int.natCast_zero, envS_get, envS_eval, lk_cons, lk_nil, Nat.reduceBEq, Nat.reduceAdd, Nat.reduceSub, cond_true, cond_false, hn]
  rintro ⟨i, q⟩ ⟨h1, h2, h3⟩ ih
  dsimp only at h1 h2 h3 ih ⊢
  by_cases hlt : i < l.length
  · have hw := wrap_in ((i : Int) + 1) (by omega)
    have hlt' : decide ((i : Int) < (l.length : Int)) = true := decide_eq_true (by omega)
    have hg := List.getElem?_eq_getElem hlt
    have hcx := h l[i] (List.getElem_mem hlt)
    rw [drop_get hlt] at h3
    obtain ⟨x, hx⟩ : ∃ x, l[i] = x := ⟨_, rfl⟩
    rw [hx] at hg h3 hcx
    rw [ecsS] at h3
    have hx1 := ecS_kids x
    have hx2 := ecsS_pos x.kids
    have hx3 := ecsS_pos (l.drop (i + 1))
    have hx4 := tcS_nn x.type
    have hwq := wrap_in (q + 1) (by omega)
    have hz := zero_ab x.type
    unfold tyV at hz
    refine ARun.go 200 ?_
    simp -implicitDefEqProofs only [awC, awN, Nat.reduceAdd, Nat.reduceSub, Nat.reduceLT, Nat.reduceLeDiff, Nat.reduceEqDiff, Int.reduceToNat, Int.reduceEq, Int.reduceLT, Int.reduceLE, Int.reduceNeg, Int.reduceAdd, Int.reduceSub, Nat.reduceBEq, awT, c42, tys, hn, hi, List.getElem?_map, hg, hlt', hwq, exD_eq]
    refine callS_fn (hz _ _) ?_
    rintro _ _ ⟨rfl, rfl⟩
    cases hzs : zeroS x.type
    · rw [hzs] at hx1
      simp only [Bool.false_eq_true, if_false] at hx1
      refine ARun.go 200 ?_
      simp -implicitDefEqProofs only [awC, awN, Nat.reduceAdd, Nat.reduceSub, Nat.reduceLT, Nat.reduceLeDiff, Nat.reduceEqDiff, Int.reduceToNat, Int.reduceEq, Int.reduceLT, Int.reduceLE, Int.reduceNeg, Int.reduceAdd, Int.reduceSub, Nat.reduceBEq, awT, c42, tys, hn, hi, hzs, mapD_nil, mapD_cons, Nat.reduceMul]
      refine callS_fn (ctyp1_ab x.type c (q + 1) _ T _ (by rw [bx_old (by simp; omega)]; exact bx_get hc) (by omega) (by omega)) ?_
      rintro _ _ ⟨rfl, rfl⟩
      have hq6 : decide (q + 1 + tcS x.type ≤ 60000) = true := decide_eq_true (by omega)
      refine ARun.go 200 ?_
      simp -implicitDefEqProofs only [awC, awN, Nat.reduceAdd, Nat.reduceSub, Nat.reduceLT, Nat.reduceLeDiff, Nat.reduceEqDiff, Int.reduceToNat, Int.reduceEq, Int.reduceLT, Int.reduceLE, Int.reduceNeg, Int.reduceAdd, Int.reduceSub, Nat.reduceBEq, awT, c42, tys, hn, hi, hq6]
      refine callS_fn (hcx c (q + 1 + tcS x.type) _ T (by rw [bx_old (by simp; omega)]; exact bx_get hc) (by omega) (by omega)) ?_
      rintro _ _ ⟨rfl, rfl⟩
      refine ARun.go 200 ?_
      simp -implicitDefEqProofs only [awC, awN, Nat.reduceAdd, Nat.reduceSub, Nat.reduceLT, Nat.reduceLeDiff, Nat.reduceEqDiff, Int.reduceToNat, Int.reduceEq, Int.reduceLT, Int.reduceLE, Int.reduceNeg, Int.reduceAdd, Int.reduceSub, Nat.reduceBEq, awT, c42, tys, hn, hi, hw]
      refine ih (i + 1, q + 1 + tcS x.type + ecsS x.kids) ⟨hlt, by dsimp only; omega, by dsimp only; omega⟩ (by dsimp only; omega) _ _ _ _ rfl ⟨by simp; omega, Nat.le_refl _⟩ (hf.set rfl) ?_
      refine AgreeF.env _ ?_
      simp only [agreeF_cons, agreeF_nil, fit, fitL, eq_self, and_self, true_and, and_true, Bool.and_true, Bool.true_and, Bool.and_self, decide_true, List.length_set, Int.natCast_add, Int.natCast_one, Int.natCast_zero, envS_get, envS_eval, lk_cons, lk_nil, Nat.reduceBEq, Nat.reduceAdd, Nat.reduceSub, cond_true, cond_false, hn, hi]
    · rw [hzs] at hx1
      simp only [if_true] at hx1
      have hq6 : decide (q + 1 ≤ 60000) = true := decide_eq_true (by omega)
      refine ARun.go 200 ?_
      simp -implicitDefEqProofs only [awC, awN, Nat.reduceAdd, Nat.reduceSub, Nat.reduceLT, Nat.reduceLeDiff, Nat.reduceEqDiff, Int.reduceToNat, Int.reduceEq, Int.reduceLT, Int.reduceLE, Int.reduceNeg, Int.reduceAdd, Int.reduceSub, Nat.reduceBEq, awT, c42, tys, hn, hi, hzs, hq6]
      refine callS_fn (hcx c (q + 1) _ T (by rw [bx_old (by simp; omega)]; exact bx_get hc) (by omega) (by omega)) ?_
      rintro _ _ ⟨rfl, rfl⟩
      refine ARun.go 200 ?_
      simp -implicitDefEqProofs only [awC, awN, Nat.reduceAdd, Nat.reduceSub, Nat.reduceLT, Nat.reduceLeDiff, Nat.reduceEqDiff, Int.reduceToNat, Int.reduceEq, Int.reduceLT, Int.reduceLE, Int.reduceNeg, Int.reduceAdd, Int.reduceSub, Nat.reduceBEq, awT, c42, tys, hn, hi, hw]
      refine ih (i + 1, q + 1 + ecsS x.kids) ⟨hlt, by dsimp only; omega, by dsimp only; omega⟩ (by dsimp only; omega) _ _ _ _ rfl ⟨by simp; omega, Nat.le_refl _⟩ (hf.set rfl) ?_
      refine AgreeF.env _ ?_
      simp only [agreeF_cons, agreeF_nil, fit, fitL, eq_self, and_self, true_and, and_true, Bool.and_true, Bool.true_and, Bool.and_self, decide_true, List.length_set, Int.natCast_add, Int.natCast_one, Int.natCast_zero, envS_get, envS_eval, lk_cons, lk_nil, Nat.reduceBEq, Nat.reduceAdd, Nat.reduceSub, cond_true, cond_false, hn, hi]
  · have hlt' : decide ((i : Int) < (l.length : Int)) = false := decide_eq_false (by omega)
    rw [List.drop_eq_nil_of_le (by omega), ecsS] at h3
    refine ARun.go 200 ?_
    simp -implicitDefEqProofs only [awC, awN, Nat.reduceAdd, Nat.reduceSub, Nat.reduceLT, Nat.reduceLeDiff, Nat.reduceEqDiff, Int.reduceToNat, Int.reduceEq, Int.reduceLT, Int.reduceLE, Int.reduceNeg, Int.reduceAdd, Int.reduceSub, Nat.reduceBEq, awT, c42, tys, hn, hi, hlt']
    refine ARun.fin Tryd.func42 rfl (Left.set0 rfl ?_)
    rw [← h3, Int.add_zero]
    exact ⟨rfl, rfl⟩
mutual
theorem cexprs_one : ∀ t : ExT, CEx t.kids
  | .mk _ _ _ _ _ es => cexprs_step es (cexprs_all es)
theorem cexprs_all : ∀ l : List ExT, ∀ x ∈ l, CEx x.kids
  | [], _, h => absurd h List.not_mem_nil
  | y :: l, x, h => by
    rcases List.mem_cons.1 h with e | e
    · rw [e]; exact cexprs_one y
    · exact cexprs_all l x e
end
theorem cexprs_ab (l : List ExT) : CEx l := cexprs_step l (cexprs_all l)
end Go.Proofs.YtombghldgdcjcaaDoor

/- The counter: statements, programs. -/
namespace Go.Proofs.YtombghldgdcjcaaDoor
open Go.RowKit Go.Av Go.Ab
set_option linter.unusedSimpArgs false
set_option maxRecDepth 100000
noncomputable def k17_0 : Code := bodyOf Tryd.f17
noncomputable def k17_1 : Code := lft k17_0
noncomputable def o17_1 : Array Oper := opsOf k17_1
noncomputable def k17_2 : Code := rgt k17_0
noncomputable def k17_3 : Code := lft k17_2
noncomputable def k17_4 : Code := lft k17_3
noncomputable def k17_5 : Code := lft k17_4
noncomputable def o17_5 : Array Oper := opsOf k17_5
noncomputable def k17_6 : Code := rgt k17_4
noncomputable def k17_7 : Code := lft k17_6
noncomputable def k17_8 : Code := lft k17_7
noncomputable def k17_9 : Code := rgt k17_7
noncomputable def k17_10 : Code := rgt k17_6
noncomputable def k17_11 : Code := lft k17_10
noncomputable def k17_12 : Code := lft k17_11
noncomputable def k17_13 : Code := lft k17_12
noncomputable def o17_13 : Array Oper := opsOf k17_13
noncomputable def k17_14 : Code := rgt k17_12
noncomputable def k17_15 : Code := lft k17_14
noncomputable def o17_15 : Array Oper := opsOf k17_15
noncomputable def k17_16 : Code := rgt k17_14
noncomputable def k17_17 : Code := lft k17_16
noncomputable def k17_18 : Code := lft k17_17
noncomputable def o17_18 : Array Oper := opsOf k17_18
noncomputable def k17_19 : Code := rgt k17_17
noncomputable def k17_20 : Code := lft k17_19
noncomputable def k17_21 : Code := rgt k17_19
noncomputable def k17_22 : Code := rgt k17_16
noncomputable def k17_23 : Code := lft k17_22
noncomputable def k17_24 : Code := lft k17_23
noncomputable def o17_24 : Array Oper := opsOf k17_24
noncomputable def k17_25 : Code := rgt k17_23
noncomputable def k17_26 : Code := lft k17_25
noncomputable def o17_26 : Array Oper := opsOf k17_26
noncomputable def k17_27 : Code := rgt k17_25
noncomputable def k17_28 : Code := rgt k17_22
noncomputable def k17_29 : Code := lft k17_28
noncomputable def o17_29 : Array Oper := opsOf k17_29
noncomputable def k17_30 : Code := rgt k17_28
noncomputable def k17_31 : Code := lft k17_30
noncomputable def o17_31 : Array Oper := opsOf k17_31
noncomputable def k17_32 : Code := rgt k17_30
noncomputable def k17_33 : Code := lft k17_32
noncomputable def o17_33 : Array Oper := opsOf k17_33
noncomputable def k17_34 : Code := rgt k17_32
noncomputable def k17_35 : Code := lft k17_34
noncomputable def o17_35 : Array Oper := opsOf k17_35
noncomputable def k17_36 : Code := rgt k17_34
noncomputable def k17_37 : Code := lft k17_36
noncomputable def o17_37 : Array Oper := opsOf k17_37
noncomputable def k17_38 : Code := rgt k17_36
noncomputable def k17_39 : Code := lft k17_38
noncomputable def k17_40 : Code := lft k17_39
noncomputable def k17_41 : Code := lft k17_40
noncomputable def o17_41 : Array Oper := opsOf k17_41
noncomputable def k17_42 : Code := rgt k17_40
noncomputable def k17_43 : Code := lft k17_42
noncomputable def k17_44 : Code := lft k17_43
noncomputable def k17_45 : Code := rgt k17_43
noncomputable def k17_46 : Code := rgt k17_42
noncomputable def k17_47 : Code := lft k17_46
noncomputable def k17_48 : Code := lft k17_47
noncomputable def k17_49 : Code := lft k17_48
noncomputable def o17_49 : Array Oper := opsOf k17_49
noncomputable def k17_50 : Code := rgt k17_48
noncomputable def k17_51 : Code := lft k17_50
noncomputable def o17_51 : Array Oper := opsOf k17_51
noncomputable def k17_52 : Code := rgt k17_50
noncomputable def o17_52 : Array Oper := opsOf k17_52
noncomputable def k17_53 : Code := rgt k17_46
noncomputable def o17_53 : Array Oper := opsOf k17_53
noncomputable def k17_54 : Code := rgt k17_10
noncomputable def o17_54 : Array Oper := opsOf k17_54
theorem c17s (I : Inv) (next stop : Cont) (k : List Item) (env : List V) (S : Mem) : (codeS I next stop k17_1 k env S = next (.inRegion o17_1 [0, 1, 2] :: k) env S) ∧
  (codeS I next stop k17_5 k env S = next (.inRegion o17_5 [0] :: k) env S) ∧
  (codeS I next stop k17_8 k env S = next k env S) ∧
  (codeS I next stop k17_9 k env S = exitV next (exitTo 0 k) env S) ∧
  (codeS I next stop k17_7 k env S = condV next (evalV I env (.tmp 11)) k17_8 k17_9 k env S) ∧
  (codeS I next stop k17_13 k env S = next (.inRegion o17_13 [0, 1, 2, 3] :: k) env S) ∧
  (codeS I next stop k17_15 k env S = next (.inRegion o17_15 [0, 1, 2, 3, 4, 5, 6, 7] :: k) env S) ∧
  (codeS I next stop k17_18 k env S = next (.inRegion o17_18 [0, 1, 2, 3, 4] :: k) env S) ∧
  (codeS I next stop k17_20 k env S = stop (.code .ret :: k) env S) ∧
  (codeS I next stop k17_21 k env S = next k env S) ∧
  (codeS I next stop k17_19 k env S = condV next (evalV I env (.tmp 25)) k17_20 k17_21 k env S) ∧
  (codeS I next stop k17_17 k env S = next (.code k17_18 :: .code k17_19 :: k) env S) ∧
  (codeS I next stop k17_24 k env S = next (.inRegion o17_24 [0, 1, 2, 3] :: k) env S) ∧
  (codeS I next stop k17_26 k env S = next (.inRegion o17_26 [0, 1, 2, 3, 4] :: k) env S) ∧
  (codeS I next stop k17_27 k env S = next k env S) ∧
  (codeS I next stop k17_25 k env S = condV next (evalV I env (.tmp 29)) k17_26 k17_27 k env S) ∧
  (codeS I next stop k17_23 k env S = next (.code k17_24 :: .code k17_25 :: k) env S) ∧
  (codeS I next stop k17_29 k env S = next (.inRegion o17_29 [0, 1, 2, 3] :: k) env S) ∧
  (codeS I next stop k17_31 k env S = next (.inRegion o17_31 [0, 1, 2, 3] :: k) env S) ∧
  (codeS I next stop k17_33 k env S = next (.inRegion o17_33 [0, 1, 2, 3] :: k) env S) ∧
  (codeS I next stop k17_35 k env S = next (.inRegion o17_35 [0, 1, 2, 3] :: k) env S) ∧
  (codeS I next stop k17_37 k env S = next (.inRegion o17_37 [0, 1, 2, 3] :: k) env S) ∧
  (codeS I next stop k17_41 k env S = next (.inRegion o17_41 [0] :: k) env S) ∧
  (codeS I next stop k17_44 k env S = next k env S) ∧
  (codeS I next stop k17_45 k env S = exitV next (exitTo 2 k) env S) ∧
  (codeS I next stop k17_43 k env S = condV next (evalV I env (.tmp 55)) k17_44 k17_45 k env S) ∧
  (codeS I next stop k17_49 k env S = next (.inRegion o17_49 [0, 1, 2, 3] :: k) env S) ∧
  (codeS I next stop k17_51 k env S = next (.inRegion o17_51 [0, 1, 2, 3, 4, 5, 6, 7] :: k) env S) ∧
  (codeS I next stop k17_52 k env S = next (.inRegion o17_52 [0, 1, 2, 3] :: k) env S) ∧
  (codeS I next stop k17_50 k env S = next (.code k17_51 :: .code k17_52 :: k) env S) ∧
  (codeS I next stop k17_48 k env S = next (.code k17_49 :: .code k17_50 :: k) env S) ∧
  (codeS I next stop k17_47 k env S = next (.code k17_48 :: .inBlock 3 :: k) env S) ∧
  (codeS I next stop k17_53 k env S = next (.inRegion o17_53 [0, 1] :: k) env S) ∧
  (codeS I next stop k17_46 k env S = next (.code k17_47 :: .code k17_53 :: k) env S) ∧
  (codeS I next stop k17_42 k env S = next (.code k17_43 :: .code k17_46 :: k) env S) ∧
  (codeS I next stop k17_40 k env S = next (.code k17_41 :: .code k17_42 :: k) env S) ∧
  (codeS I next stop k17_39 k env S = stop (.code (.loop k17_40) :: k) env S) ∧
  (codeS I next stop k17_38 k env S = next (.code k17_39 :: .inBlock 2 :: k) env S) ∧
  (codeS I next stop k17_36 k env S = next (.code k17_37 :: .code k17_38 :: k) env S) ∧
  (codeS I next stop k17_34 k env S = next (.code k17_35 :: .code k17_36 :: k) env S) ∧
  (codeS I next stop k17_32 k env S = next (.code k17_33 :: .code k17_34 :: k) env S) ∧
  (codeS I next stop k17_30 k env S = next (.code k17_31 :: .code k17_32 :: k) env S) ∧
  (codeS I next stop k17_28 k env S = next (.code k17_29 :: .code k17_30 :: k) env S) ∧
  (codeS I next stop k17_22 k env S = next (.code k17_23 :: .code k17_28 :: k) env S) ∧
  (codeS I next stop k17_16 k env S = next (.code k17_17 :: .code k17_22 :: k) env S) ∧
  (codeS I next stop k17_14 k env S = next (.code k17_15 :: .code k17_16 :: k) env S) ∧
  (codeS I next stop k17_12 k env S = next (.code k17_13 :: .code k17_14 :: k) env S) ∧
  (codeS I next stop k17_11 k env S = next (.code k17_12 :: .inBlock 1 :: k) env S) ∧
  (codeS I next stop k17_54 k env S = next (.inRegion o17_54 [0, 1] :: k) env S) ∧
  (codeS I next stop k17_10 k env S = next (.code k17_11 :: .code k17_54 :: k) env S) ∧
  (codeS I next stop k17_6 k env S = next (.code k17_7 :: .code k17_10 :: k) env S) ∧
  (codeS I next stop k17_4 k env S = next (.code k17_5 :: .code k17_6 :: k) env S) ∧
  (codeS I next stop k17_3 k env S = stop (.code (.loop k17_4) :: k) env S) ∧
  (codeS I next stop k17_2 k env S = next (.code k17_3 :: .inBlock 0 :: k) env S) ∧
  (codeS I next stop k17_0 k env S = next (.code k17_1 :: .code k17_2 :: k) env S) := by
  repeat' apply And.intro
  all_goals kernel_rfl
theorem c17r (P : Program) (I : Inv) (next stop : Cont) (rest : List Nat) (k : List Item) (env : List V) (S : Mem) : (regS P I next stop o17_1 0 rest k env S = bindS next (op1 P (evalV I env) S (.move (.tmp 1))) (.inRegion o17_1 rest :: k) (some 8) env) ∧
  (regS P I next stop o17_1 1 rest k env S = bindS next (opCall P (evalV I env) S { callee := .builtin .len, args := #[.tmp 8], argTypes := #[54] }) (.inRegion o17_1 rest :: k) (some 9) env) ∧
  (regS P I next stop o17_1 2 rest k env S = bindS next (op1 P (evalV I env) S (.move (.const (.int .i64 0)))) (.inRegion o17_1 rest :: k) (some 10) env) ∧
  (regS P I next stop o17_5 0 rest k env S = bindS next (op1 P (evalV I env) S (.binOp .lss 3 (.tmp 10) (.tmp 9) 3)) (.inRegion o17_5 rest :: k) (some 11) env) ∧
  (regS P I next stop o17_13 0 rest k env S = bindS next (op1 P (evalV I env) S (.indexAddr 54 (.tmp 8) (.tmp 10))) (.inRegion o17_13 rest :: k) (some 12) env) ∧
  (regS P I next stop o17_13 1 rest k env S = bindS next (op1 P (evalV I env) S (.load 69 (.tmp 12))) (.inRegion o17_13 rest :: k) (some 13) env) ∧
  (regS P I next stop o17_13 2 rest k env S = bindS next (op1 P (evalV I env) S (.alloc 69)) (.inRegion o17_13 rest :: k) (some 5) env) ∧
  (regS P I next stop o17_13 3 rest k env S = bindS next (op1 P (evalV I env) S (.store 69 (.tmp 5) (.tmp 13))) (.inRegion o17_13 rest :: k) none env) ∧
  (regS P I next stop o17_15 0 rest k env S = bindS next (op1 P (evalV I env) S (.move (.tmp 0))) (.inRegion o17_15 rest :: k) (some 14) env) ∧
  (regS P I next stop o17_15 1 rest k env S = bindS next (op1 P (evalV I env) S (.nilCheck (.tmp 14))) (.inRegion o17_15 rest :: k) (some 15) env) ∧
  (regS P I next stop o17_15 2 rest k env S = bindS next (op1 P (evalV I env) S (.fieldAddr 49 (.tmp 15) 0)) (.inRegion o17_15 rest :: k) (some 16) env) ∧
  (regS P I next stop o17_15 3 rest k env S = bindS next (op1 P (evalV I env) S (.load 3 (.tmp 16))) (.inRegion o17_15 rest :: k) (some 17) env) ∧
  (regS P I next stop o17_15 4 rest k env S = bindS next (op1 P (evalV I env) S (.binOp .add 3 (.tmp 17) (.const (.int .i64 1)) 3)) (.inRegion o17_15 rest :: k) (some 18) env) ∧
  (regS P I next stop o17_15 5 rest k env S = bindS next (op1 P (evalV I env) S (.nilCheck (.tmp 14))) (.inRegion o17_15 rest :: k) (some 19) env) ∧
  (regS P I next stop o17_15 6 rest k env S = bindS next (op1 P (evalV I env) S (.fieldAddr 49 (.tmp 19) 0)) (.inRegion o17_15 rest :: k) (some 20) env) ∧
  (regS P I next stop o17_15 7 rest k env S = bindS next (op1 P (evalV I env) S (.store 3 (.tmp 20) (.tmp 18))) (.inRegion o17_15 rest :: k) none env) ∧
  (regS P I next stop o17_18 0 rest k env S = bindS next (op1 P (evalV I env) S (.move (.tmp 0))) (.inRegion o17_18 rest :: k) (some 21) env) ∧
  (regS P I next stop o17_18 1 rest k env S = bindS next (op1 P (evalV I env) S (.nilCheck (.tmp 21))) (.inRegion o17_18 rest :: k) (some 22) env) ∧
  (regS P I next stop o17_18 2 rest k env S = bindS next (op1 P (evalV I env) S (.fieldAddr 49 (.tmp 22) 0)) (.inRegion o17_18 rest :: k) (some 23) env) ∧
  (regS P I next stop o17_18 3 rest k env S = bindS next (op1 P (evalV I env) S (.load 3 (.tmp 23))) (.inRegion o17_18 rest :: k) (some 24) env) ∧
  (regS P I next stop o17_18 4 rest k env S = bindS next (op1 P (evalV I env) S (.binOp .gtr 3 (.tmp 24) (.const (.int .i64 60000)) 3)) (.inRegion o17_18 rest :: k) (some 25) env) ∧
  (regS P I next stop o17_24 0 rest k env S = bindS next (op1 P (evalV I env) S (.fieldAddr 69 (.tmp 5) 2)) (.inRegion o17_24 rest :: k) (some 26) env) ∧
  (regS P I next stop o17_24 1 rest k env S = bindS next (op1 P (evalV I env) S (.load 34 (.tmp 26))) (.inRegion o17_24 rest :: k) (some 27) env) ∧
  (regS P I next stop o17_24 2 rest k env S = callS P I stop (evalV I env (.func 41)) [evalV I env (.tmp 27)] (.inRegion o17_24 rest :: k) (some 28) env S) ∧
  (regS P I next stop o17_24 3 rest k env S = bindS next (op1 P (evalV I env) S (.unOp .not 4 (.tmp 28))) (.inRegion o17_24 rest :: k) (some 29) env) ∧
  (regS P I next stop o17_26 0 rest k env S = bindS next (op1 P (evalV I env) S (.move (.tmp 0))) (.inRegion o17_26 rest :: k) (some 30) env) ∧
  (regS P I next stop o17_26 1 rest k env S = bindS next (op1 P (evalV I env) S (.fieldAddr 69 (.tmp 5) 2)) (.inRegion o17_26 rest :: k) (some 31) env) ∧
  (regS P I next stop o17_26 2 rest k env S = bindS next (op1 P (evalV I env) S (.load 34 (.tmp 31))) (.inRegion o17_26 rest :: k) (some 32) env) ∧
  (regS P I next stop o17_26 3 rest k env S = bindS next (op1 P (evalV I env) S (.buildSlice 32 1 #[(0, .tmp 32)])) (.inRegion o17_26 rest :: k) (some 33) env) ∧
  (regS P I next stop o17_26 4 rest k env S = callS P I stop (evalV I env (.func 16)) [evalV I env (.tmp 30), evalV I env (.tmp 33)] (.inRegion o17_26 rest :: k) (some 34) env S) ∧
  (regS P I next stop o17_29 0 rest k env S = bindS next (op1 P (evalV I env) S (.move (.tmp 0))) (.inRegion o17_29 rest :: k) (some 35) env) ∧
  (regS P I next stop o17_29 1 rest k env S = bindS next (op1 P (evalV I env) S (.fieldAddr 69 (.tmp 5) 3)) (.inRegion o17_29 rest :: k) (some 36) env) ∧
  (regS P I next stop o17_29 2 rest k env S = bindS next (op1 P (evalV I env) S (.load 36 (.tmp 36))) (.inRegion o17_29 rest :: k) (some 37) env) ∧
  (regS P I next stop o17_29 3 rest k env S = callS P I stop (evalV I env (.func 42)) [evalV I env (.tmp 35), evalV I env (.tmp 37)] (.inRegion o17_29 rest :: k) (some 38) env S) ∧
  (regS P I next stop o17_31 0 rest k env S = bindS next (op1 P (evalV I env) S (.move (.tmp 0))) (.inRegion o17_31 rest :: k) (some 39) env) ∧
  (regS P I next stop o17_31 1 rest k env S = bindS next (op1 P (evalV I env) S (.fieldAddr 69 (.tmp 5) 4)) (.inRegion o17_31 rest :: k) (some 40) env) ∧
  (regS P I next stop o17_31 2 rest k env S = bindS next (op1 P (evalV I env) S (.load 36 (.tmp 40))) (.inRegion o17_31 rest :: k) (some 41) env) ∧
  (regS P I next stop o17_31 3 rest k env S = callS P I stop (evalV I env (.func 42)) [evalV I env (.tmp 39), evalV I env (.tmp 41)] (.inRegion o17_31 rest :: k) (some 42) env S) ∧
  (regS P I next stop o17_33 0 rest k env S = bindS next (op1 P (evalV I env) S (.move (.tmp 0))) (.inRegion o17_33 rest :: k) (some 43) env) ∧
  (regS P I next stop o17_33 1 rest k env S = bindS next (op1 P (evalV I env) S (.fieldAddr 69 (.tmp 5) 5)) (.inRegion o17_33 rest :: k) (some 44) env) ∧
  (regS P I next stop o17_33 2 rest k env S = bindS next (op1 P (evalV I env) S (.load 54 (.tmp 44))) (.inRegion o17_33 rest :: k) (some 45) env) ∧
  (regS P I next stop o17_33 3 rest k env S = callS P I stop (evalV I env (.func 17)) [evalV I env (.tmp 43), evalV I env (.tmp 45)] (.inRegion o17_33 rest :: k) (some 46) env S) ∧
  (regS P I next stop o17_35 0 rest k env S = bindS next (op1 P (evalV I env) S (.move (.tmp 0))) (.inRegion o17_35 rest :: k) (some 47) env) ∧
  (regS P I next stop o17_35 1 rest k env S = bindS next (op1 P (evalV I env) S (.fieldAddr 69 (.tmp 5) 6)) (.inRegion o17_35 rest :: k) (some 48) env) ∧
  (regS P I next stop o17_35 2 rest k env S = bindS next (op1 P (evalV I env) S (.load 54 (.tmp 48))) (.inRegion o17_35 rest :: k) (some 49) env) ∧
  (regS P I next stop o17_35 3 rest k env S = callS P I stop (evalV I env (.func 17)) [evalV I env (.tmp 47), evalV I env (.tmp 49)] (.inRegion o17_35 rest :: k) (some 50) env S) ∧
  (regS P I next stop o17_37 0 rest k env S = bindS next (op1 P (evalV I env) S (.fieldAddr 69 (.tmp 5) 7)) (.inRegion o17_37 rest :: k) (some 51) env) ∧
  (regS P I next stop o17_37 1 rest k env S = bindS next (op1 P (evalV I env) S (.load 67 (.tmp 51))) (.inRegion o17_37 rest :: k) (some 52) env) ∧
  (regS P I next stop o17_37 2 rest k env S = bindS next (opCall P (evalV I env) S { callee := .builtin .len, args := #[.tmp 52], argTypes := #[67] }) (.inRegion o17_37 rest :: k) (some 53) env) ∧
  (regS P I next stop o17_37 3 rest k env S = bindS next (op1 P (evalV I env) S (.move (.const (.int .i64 0)))) (.inRegion o17_37 rest :: k) (some 54) env) ∧
  (regS P I next stop o17_41 0 rest k env S = bindS next (op1 P (evalV I env) S (.binOp .lss 3 (.tmp 54) (.tmp 53) 3)) (.inRegion o17_41 rest :: k) (some 55) env) ∧
  (regS P I next stop o17_49 0 rest k env S = bindS next (op1 P (evalV I env) S (.indexAddr 67 (.tmp 52) (.tmp 54))) (.inRegion o17_49 rest :: k) (some 56) env) ∧
  (regS P I next stop o17_49 1 rest k env S = bindS next (op1 P (evalV I env) S (.load 94 (.tmp 56))) (.inRegion o17_49 rest :: k) (some 57) env) ∧
  (regS P I next stop o17_49 2 rest k env S = bindS next (op1 P (evalV I env) S (.alloc 94)) (.inRegion o17_49 rest :: k) (some 7) env) ∧
  (regS P I next stop o17_49 3 rest k env S = bindS next (op1 P (evalV I env) S (.store 94 (.tmp 7) (.tmp 57))) (.inRegion o17_49 rest :: k) none env) ∧
  (regS P I next stop o17_51 0 rest k env S = bindS next (op1 P (evalV I env) S (.move (.tmp 0))) (.inRegion o17_51 rest :: k) (some 58) env) ∧
  (regS P I next stop o17_51 1 rest k env S = bindS next (op1 P (evalV I env) S (.nilCheck (.tmp 58))) (.inRegion o17_51 rest :: k) (some 59) env) ∧
  (regS P I next stop o17_51 2 rest k env S = bindS next (op1 P (evalV I env) S (.fieldAddr 49 (.tmp 59) 0)) (.inRegion o17_51 rest :: k) (some 60) env) ∧
  (regS P I next stop o17_51 3 rest k env S = bindS next (op1 P (evalV I env) S (.load 3 (.tmp 60))) (.inRegion o17_51 rest :: k) (some 61) env) ∧
  (regS P I next stop o17_51 4 rest k env S = bindS next (op1 P (evalV I env) S (.binOp .add 3 (.tmp 61) (.const (.int .i64 1)) 3)) (.inRegion o17_51 rest :: k) (some 62) env) ∧
  (regS P I next stop o17_51 5 rest k env S = bindS next (op1 P (evalV I env) S (.nilCheck (.tmp 58))) (.inRegion o17_51 rest :: k) (some 63) env) ∧
  (regS P I next stop o17_51 6 rest k env S = bindS next (op1 P (evalV I env) S (.fieldAddr 49 (.tmp 63) 0)) (.inRegion o17_51 rest :: k) (some 64) env) ∧
  (regS P I next stop o17_51 7 rest k env S = bindS next (op1 P (evalV I env) S (.store 3 (.tmp 64) (.tmp 62))) (.inRegion o17_51 rest :: k) none env) ∧
  (regS P I next stop o17_52 0 rest k env S = bindS next (op1 P (evalV I env) S (.move (.tmp 0))) (.inRegion o17_52 rest :: k) (some 65) env) ∧
  (regS P I next stop o17_52 1 rest k env S = bindS next (op1 P (evalV I env) S (.fieldAddr 94 (.tmp 7) 1)) (.inRegion o17_52 rest :: k) (some 66) env) ∧
  (regS P I next stop o17_52 2 rest k env S = bindS next (op1 P (evalV I env) S (.load 54 (.tmp 66))) (.inRegion o17_52 rest :: k) (some 67) env) ∧
  (regS P I next stop o17_52 3 rest k env S = callS P I stop (evalV I env (.func 17)) [evalV I env (.tmp 65), evalV I env (.tmp 67)] (.inRegion o17_52 rest :: k) (some 68) env S) ∧
  (regS P I next stop o17_53 0 rest k env S = bindS next (op1 P (evalV I env) S (.binOp .add 3 (.tmp 54) (.const (.int .i64 1)) 3)) (.inRegion o17_53 rest :: k) (some 69) env) ∧
  (regS P I next stop o17_53 1 rest k env S = bindS next (op1 P (evalV I env) S (.move (.tmp 69))) (.inRegion o17_53 rest :: k) (some 54) env) ∧
  (regS P I next stop o17_54 0 rest k env S = bindS next (op1 P (evalV I env) S (.binOp .add 3 (.tmp 10) (.const (.int .i64 1)) 3)) (.inRegion o17_54 rest :: k) (some 70) env) ∧
  (regS P I next stop o17_54 1 rest k env S = bindS next (op1 P (evalV I env) S (.move (.tmp 70))) (.inRegion o17_54 rest :: k) (some 10) env) := by
  repeat' apply And.intro
  all_goals kernel_rfl
set_option linter.defProp false in
/-- All of these. -/
def c17 := And.intro @c17s (@c17r)
noncomputable def k7_0 : Code := bodyOf Tryd.f7
noncomputable def k7_1 : Code := lft k7_0
noncomputable def o7_1 : Array Oper := opsOf k7_1
noncomputable def k7_2 : Code := rgt k7_0
noncomputable def k7_3 : Code := lft k7_2
noncomputable def o7_3 : Array Oper := opsOf k7_3
noncomputable def k7_4 : Code := rgt k7_2
noncomputable def k7_5 : Code := lft k7_4
noncomputable def k7_6 : Code := lft k7_5
noncomputable def o7_6 : Array Oper := opsOf k7_6
noncomputable def k7_7 : Code := rgt k7_5
noncomputable def k7_8 : Code := lft k7_7
noncomputable def k7_9 : Code := lft k7_8
noncomputable def k7_10 : Code := lft k7_9
noncomputable def o7_10 : Array Oper := opsOf k7_10
noncomputable def k7_11 : Code := rgt k7_9
noncomputable def k7_12 : Code := lft k7_11
noncomputable def k7_13 : Code := lft k7_12
noncomputable def k7_14 : Code := rgt k7_12
noncomputable def k7_15 : Code := rgt k7_11
noncomputable def k7_16 : Code := lft k7_15
noncomputable def k7_17 : Code := lft k7_16
noncomputable def k7_18 : Code := lft k7_17
noncomputable def o7_18 : Array Oper := opsOf k7_18
noncomputable def k7_19 : Code := rgt k7_17
noncomputable def o7_19 : Array Oper := opsOf k7_19
noncomputable def k7_20 : Code := rgt k7_15
noncomputable def o7_20 : Array Oper := opsOf k7_20
noncomputable def k7_21 : Code := rgt k7_4
noncomputable def k7_22 : Code := lft k7_21
noncomputable def k7_23 : Code := lft k7_22
noncomputable def o7_23 : Array Oper := opsOf k7_23
noncomputable def k7_24 : Code := rgt k7_22
noncomputable def k7_25 : Code := lft k7_24
noncomputable def k7_26 : Code := lft k7_25
noncomputable def k7_27 : Code := lft k7_26
noncomputable def o7_27 : Array Oper := opsOf k7_27
noncomputable def k7_28 : Code := rgt k7_26
noncomputable def k7_29 : Code := lft k7_28
noncomputable def k7_30 : Code := lft k7_29
noncomputable def k7_31 : Code := rgt k7_29
noncomputable def k7_32 : Code := rgt k7_28
noncomputable def k7_33 : Code := lft k7_32
noncomputable def k7_34 : Code := lft k7_33
noncomputable def k7_35 : Code := lft k7_34
noncomputable def o7_35 : Array Oper := opsOf k7_35
noncomputable def k7_36 : Code := rgt k7_34
noncomputable def k7_37 : Code := lft k7_36
noncomputable def o7_37 : Array Oper := opsOf k7_37
noncomputable def k7_38 : Code := rgt k7_36
noncomputable def k7_39 : Code := lft k7_38
noncomputable def o7_39 : Array Oper := opsOf k7_39
noncomputable def k7_40 : Code := rgt k7_38
noncomputable def o7_40 : Array Oper := opsOf k7_40
noncomputable def k7_41 : Code := rgt k7_32
noncomputable def o7_41 : Array Oper := opsOf k7_41
noncomputable def k7_42 : Code := rgt k7_21
noncomputable def k7_43 : Code := lft k7_42
noncomputable def o7_43 : Array Oper := opsOf k7_43
noncomputable def k7_44 : Code := rgt k7_42
theorem c7s (I : Inv) (next stop : Cont) (k : List Item) (env : List V) (S : Mem) : (codeS I next stop k7_1 k env S = next (.inRegion o7_1 [0, 1] :: k) env S) ∧
  (codeS I next stop k7_3 k env S = next (.inRegion o7_3 [0, 1, 2, 3, 4, 5, 6, 7, 8, 9] :: k) env S) ∧
  (codeS I next stop k7_6 k env S = next (.inRegion o7_6 [0, 1, 2, 3] :: k) env S) ∧
  (codeS I next stop k7_10 k env S = next (.inRegion o7_10 [0] :: k) env S) ∧
  (codeS I next stop k7_13 k env S = next k env S) ∧
  (codeS I next stop k7_14 k env S = exitV next (exitTo 0 k) env S) ∧
  (codeS I next stop k7_12 k env S = condV next (evalV I env (.tmp 21)) k7_13 k7_14 k env S) ∧
  (codeS I next stop k7_18 k env S = next (.inRegion o7_18 [0, 1, 2, 3] :: k) env S) ∧
  (codeS I next stop k7_19 k env S = next (.inRegion o7_19 [0, 1, 2, 3] :: k) env S) ∧
  (codeS I next stop k7_17 k env S = next (.code k7_18 :: .code k7_19 :: k) env S) ∧
  (codeS I next stop k7_16 k env S = next (.code k7_17 :: .inBlock 1 :: k) env S) ∧
  (codeS I next stop k7_20 k env S = next (.inRegion o7_20 [0, 1] :: k) env S) ∧
  (codeS I next stop k7_15 k env S = next (.code k7_16 :: .code k7_20 :: k) env S) ∧
  (codeS I next stop k7_11 k env S = next (.code k7_12 :: .code k7_15 :: k) env S) ∧
  (codeS I next stop k7_9 k env S = next (.code k7_10 :: .code k7_11 :: k) env S) ∧
  (codeS I next stop k7_8 k env S = stop (.code (.loop k7_9) :: k) env S) ∧
  (codeS I next stop k7_7 k env S = next (.code k7_8 :: .inBlock 0 :: k) env S) ∧
  (codeS I next stop k7_5 k env S = next (.code k7_6 :: .code k7_7 :: k) env S) ∧
  (codeS I next stop k7_23 k env S = next (.inRegion o7_23 [0, 1, 2, 3] :: k) env S) ∧
  (codeS I next stop k7_27 k env S = next (.inRegion o7_27 [0] :: k) env S) ∧
  (codeS I next stop k7_30 k env S = next k env S) ∧
  (codeS I next stop k7_31 k env S = exitV next (exitTo 2 k) env S) ∧
  (codeS I next stop k7_29 k env S = condV next (evalV I env (.tmp 33)) k7_30 k7_31 k env S) ∧
  (codeS I next stop k7_35 k env S = next (.inRegion o7_35 [0, 1, 2, 3] :: k) env S) ∧
  (codeS I next stop k7_37 k env S = next (.inRegion o7_37 [0, 1, 2, 3] :: k) env S) ∧
  (codeS I next stop k7_39 k env S = next (.inRegion o7_39 [0, 1, 2, 3] :: k) env S) ∧
  (codeS I next stop k7_40 k env S = next (.inRegion o7_40 [0, 1, 2, 3] :: k) env S) ∧
  (codeS I next stop k7_38 k env S = next (.code k7_39 :: .code k7_40 :: k) env S) ∧
  (codeS I next stop k7_36 k env S = next (.code k7_37 :: .code k7_38 :: k) env S) ∧
  (codeS I next stop k7_34 k env S = next (.code k7_35 :: .code k7_36 :: k) env S) ∧
  (codeS I next stop k7_33 k env S = next (.code k7_34 :: .inBlock 3 :: k) env S) ∧
  (codeS I next stop k7_41 k env S = next (.inRegion o7_41 [0, 1] :: k) env S) ∧
  (codeS I next stop k7_32 k env S = next (.code k7_33 :: .code k7_41 :: k) env S) ∧
  (codeS I next stop k7_28 k env S = next (.code k7_29 :: .code k7_32 :: k) env S) ∧
  (codeS I next stop k7_26 k env S = next (.code k7_27 :: .code k7_28 :: k) env S) ∧
  (codeS I next stop k7_25 k env S = stop (.code (.loop k7_26) :: k) env S) ∧
  (codeS I next stop k7_24 k env S = next (.code k7_25 :: .inBlock 2 :: k) env S) ∧
  (codeS I next stop k7_22 k env S = next (.code k7_23 :: .code k7_24 :: k) env S) ∧
  (codeS I next stop k7_43 k env S = next (.inRegion o7_43 [0, 1, 2, 3, 4, 5] :: k) env S) ∧
  (codeS I next stop k7_44 k env S = stop (.code .ret :: k) env S) ∧
  (codeS I next stop k7_42 k env S = next (.code k7_43 :: .code k7_44 :: k) env S) ∧
  (codeS I next stop k7_21 k env S = next (.code k7_22 :: .code k7_42 :: k) env S) ∧
  (codeS I next stop k7_4 k env S = next (.code k7_5 :: .code k7_21 :: k) env S) ∧
  (codeS I next stop k7_2 k env S = next (.code k7_3 :: .code k7_4 :: k) env S) ∧
  (codeS I next stop k7_0 k env S = next (.code k7_1 :: .code k7_2 :: k) env S) := by
  repeat' apply And.intro
  all_goals kernel_rfl
theorem c7r (P : Program) (I : Inv) (next stop : Cont) (rest : List Nat) (k : List Item) (env : List V) (S : Mem) : (regS P I next stop o7_1 0 rest k env S = bindS next (op1 P (evalV I env) S (.box 25 (.tmp 0))) (.inRegion o7_1 rest :: k) (some 1) env) ∧
  (regS P I next stop o7_1 1 rest k env S = bindS next (op1 P (evalV I env) S (.assign (.const (.int .i64 0)))) (.inRegion o7_1 rest :: k) (some 2) env) ∧
  (regS P I next stop o7_3 0 rest k env S = bindS next (op1 P (evalV I env) S (.fieldAddr 25 (.tmp 1) 0)) (.inRegion o7_3 rest :: k) (some 8) env) ∧
  (regS P I next stop o7_3 1 rest k env S = bindS next (op1 P (evalV I env) S (.load 22 (.tmp 8))) (.inRegion o7_3 rest :: k) (some 9) env) ∧
  (regS P I next stop o7_3 2 rest k env S = bindS next (opCall P (evalV I env) S { callee := .builtin .len, args := #[.tmp 9], argTypes := #[22] }) (.inRegion o7_3 rest :: k) (some 10) env) ∧
  (regS P I next stop o7_3 3 rest k env S = bindS next (op1 P (evalV I env) S (.fieldAddr 25 (.tmp 1) 1)) (.inRegion o7_3 rest :: k) (some 11) env) ∧
  (regS P I next stop o7_3 4 rest k env S = bindS next (op1 P (evalV I env) S (.load 23 (.tmp 11))) (.inRegion o7_3 rest :: k) (some 12) env) ∧
  (regS P I next stop o7_3 5 rest k env S = bindS next (opCall P (evalV I env) S { callee := .builtin .len, args := #[.tmp 12], argTypes := #[23] }) (.inRegion o7_3 rest :: k) (some 13) env) ∧
  (regS P I next stop o7_3 6 rest k env S = bindS next (op1 P (evalV I env) S (.binOp .add 3 (.tmp 10) (.tmp 13) 3)) (.inRegion o7_3 rest :: k) (some 14) env) ∧
  (regS P I next stop o7_3 7 rest k env S = bindS next (op1 P (evalV I env) S (.build 49 #[(0, .tmp 14)])) (.inRegion o7_3 rest :: k) (some 15) env) ∧
  (regS P I next stop o7_3 8 rest k env S = bindS next (op1 P (evalV I env) S (.box 49 (.tmp 15))) (.inRegion o7_3 rest :: k) (some 16) env) ∧
  (regS P I next stop o7_3 9 rest k env S = bindS next (op1 P (evalV I env) S (.assign (.tmp 16))) (.inRegion o7_3 rest :: k) (some 3) env) ∧
  (regS P I next stop o7_6 0 rest k env S = bindS next (op1 P (evalV I env) S (.fieldAddr 25 (.tmp 1) 0)) (.inRegion o7_6 rest :: k) (some 17) env) ∧
  (regS P I next stop o7_6 1 rest k env S = bindS next (op1 P (evalV I env) S (.load 22 (.tmp 17))) (.inRegion o7_6 rest :: k) (some 18) env) ∧
  (regS P I next stop o7_6 2 rest k env S = bindS next (opCall P (evalV I env) S { callee := .builtin .len, args := #[.tmp 18], argTypes := #[22] }) (.inRegion o7_6 rest :: k) (some 19) env) ∧
  (regS P I next stop o7_6 3 rest k env S = bindS next (op1 P (evalV I env) S (.move (.const (.int .i64 0)))) (.inRegion o7_6 rest :: k) (some 20) env) ∧
  (regS P I next stop o7_10 0 rest k env S = bindS next (op1 P (evalV I env) S (.binOp .lss 3 (.tmp 20) (.tmp 19) 3)) (.inRegion o7_10 rest :: k) (some 21) env) ∧
  (regS P I next stop o7_18 0 rest k env S = bindS next (op1 P (evalV I env) S (.indexAddr 22 (.tmp 18) (.tmp 20))) (.inRegion o7_18 rest :: k) (some 22) env) ∧
  (regS P I next stop o7_18 1 rest k env S = bindS next (op1 P (evalV I env) S (.load 52 (.tmp 22))) (.inRegion o7_18 rest :: k) (some 23) env) ∧
  (regS P I next stop o7_18 2 rest k env S = bindS next (op1 P (evalV I env) S (.alloc 52)) (.inRegion o7_18 rest :: k) (some 5) env) ∧
  (regS P I next stop o7_18 3 rest k env S = bindS next (op1 P (evalV I env) S (.store 52 (.tmp 5) (.tmp 23))) (.inRegion o7_18 rest :: k) none env) ∧
  (regS P I next stop o7_19 0 rest k env S = bindS next (op1 P (evalV I env) S (.move (.tmp 3))) (.inRegion o7_19 rest :: k) (some 24) env) ∧
  (regS P I next stop o7_19 1 rest k env S = bindS next (op1 P (evalV I env) S (.fieldAddr 52 (.tmp 5) 1)) (.inRegion o7_19 rest :: k) (some 25) env) ∧
  (regS P I next stop o7_19 2 rest k env S = bindS next (op1 P (evalV I env) S (.load 50 (.tmp 25))) (.inRegion o7_19 rest :: k) (some 26) env) ∧
  (regS P I next stop o7_19 3 rest k env S = callS P I stop (evalV I env (.func 15)) [evalV I env (.tmp 24), evalV I env (.tmp 26)] (.inRegion o7_19 rest :: k) (some 27) env S) ∧
  (regS P I next stop o7_20 0 rest k env S = bindS next (op1 P (evalV I env) S (.binOp .add 3 (.tmp 20) (.const (.int .i64 1)) 3)) (.inRegion o7_20 rest :: k) (some 28) env) ∧
  (regS P I next stop o7_20 1 rest k env S = bindS next (op1 P (evalV I env) S (.move (.tmp 28))) (.inRegion o7_20 rest :: k) (some 20) env) ∧
  (regS P I next stop o7_23 0 rest k env S = bindS next (op1 P (evalV I env) S (.fieldAddr 25 (.tmp 1) 1)) (.inRegion o7_23 rest :: k) (some 29) env) ∧
  (regS P I next stop o7_23 1 rest k env S = bindS next (op1 P (evalV I env) S (.load 23 (.tmp 29))) (.inRegion o7_23 rest :: k) (some 30) env) ∧
  (regS P I next stop o7_23 2 rest k env S = bindS next (opCall P (evalV I env) S { callee := .builtin .len, args := #[.tmp 30], argTypes := #[23] }) (.inRegion o7_23 rest :: k) (some 31) env) ∧
  (regS P I next stop o7_23 3 rest k env S = bindS next (op1 P (evalV I env) S (.move (.const (.int .i64 0)))) (.inRegion o7_23 rest :: k) (some 32) env) ∧
  (regS P I next stop o7_27 0 rest k env S = bindS next (op1 P (evalV I env) S (.binOp .lss 3 (.tmp 32) (.tmp 31) 3)) (.inRegion o7_27 rest :: k) (some 33) env) ∧
  (regS P I next stop o7_35 0 rest k env S = bindS next (op1 P (evalV I env) S (.indexAddr 23 (.tmp 30) (.tmp 32))) (.inRegion o7_35 rest :: k) (some 34) env) ∧
  (regS P I next stop o7_35 1 rest k env S = bindS next (op1 P (evalV I env) S (.load 56 (.tmp 34))) (.inRegion o7_35 rest :: k) (some 35) env) ∧
  (regS P I next stop o7_35 2 rest k env S = bindS next (op1 P (evalV I env) S (.alloc 56)) (.inRegion o7_35 rest :: k) (some 7) env) ∧
  (regS P I next stop o7_35 3 rest k env S = bindS next (op1 P (evalV I env) S (.store 56 (.tmp 7) (.tmp 35))) (.inRegion o7_35 rest :: k) none env) ∧
  (regS P I next stop o7_37 0 rest k env S = bindS next (op1 P (evalV I env) S (.move (.tmp 3))) (.inRegion o7_37 rest :: k) (some 36) env) ∧
  (regS P I next stop o7_37 1 rest k env S = bindS next (op1 P (evalV I env) S (.fieldAddr 56 (.tmp 7) 1)) (.inRegion o7_37 rest :: k) (some 37) env) ∧
  (regS P I next stop o7_37 2 rest k env S = bindS next (op1 P (evalV I env) S (.load 50 (.tmp 37))) (.inRegion o7_37 rest :: k) (some 38) env) ∧
  (regS P I next stop o7_37 3 rest k env S = callS P I stop (evalV I env (.func 15)) [evalV I env (.tmp 36), evalV I env (.tmp 38)] (.inRegion o7_37 rest :: k) (some 39) env S) ∧
  (regS P I next stop o7_39 0 rest k env S = bindS next (op1 P (evalV I env) S (.move (.tmp 3))) (.inRegion o7_39 rest :: k) (some 40) env) ∧
  (regS P I next stop o7_39 1 rest k env S = bindS next (op1 P (evalV I env) S (.fieldAddr 56 (.tmp 7) 2)) (.inRegion o7_39 rest :: k) (some 41) env) ∧
  (regS P I next stop o7_39 2 rest k env S = bindS next (op1 P (evalV I env) S (.load 32 (.tmp 41))) (.inRegion o7_39 rest :: k) (some 42) env) ∧
  (regS P I next stop o7_39 3 rest k env S = callS P I stop (evalV I env (.func 16)) [evalV I env (.tmp 40), evalV I env (.tmp 42)] (.inRegion o7_39 rest :: k) (some 43) env S) ∧
  (regS P I next stop o7_40 0 rest k env S = bindS next (op1 P (evalV I env) S (.move (.tmp 3))) (.inRegion o7_40 rest :: k) (some 44) env) ∧
  (regS P I next stop o7_40 1 rest k env S = bindS next (op1 P (evalV I env) S (.fieldAddr 56 (.tmp 7) 3)) (.inRegion o7_40 rest :: k) (some 45) env) ∧
  (regS P I next stop o7_40 2 rest k env S = bindS next (op1 P (evalV I env) S (.load 54 (.tmp 45))) (.inRegion o7_40 rest :: k) (some 46) env) ∧
  (regS P I next stop o7_40 3 rest k env S = callS P I stop (evalV I env (.func 17)) [evalV I env (.tmp 44), evalV I env (.tmp 46)] (.inRegion o7_40 rest :: k) (some 47) env S) ∧
  (regS P I next stop o7_41 0 rest k env S = bindS next (op1 P (evalV I env) S (.binOp .add 3 (.tmp 32) (.const (.int .i64 1)) 3)) (.inRegion o7_41 rest :: k) (some 48) env) ∧
  (regS P I next stop o7_41 1 rest k env S = bindS next (op1 P (evalV I env) S (.move (.tmp 48))) (.inRegion o7_41 rest :: k) (some 32) env) ∧
  (regS P I next stop o7_43 0 rest k env S = bindS next (op1 P (evalV I env) S (.move (.tmp 3))) (.inRegion o7_43 rest :: k) (some 49) env) ∧
  (regS P I next stop o7_43 1 rest k env S = bindS next (op1 P (evalV I env) S (.nilCheck (.tmp 49))) (.inRegion o7_43 rest :: k) (some 50) env) ∧
  (regS P I next stop o7_43 2 rest k env S = bindS next (op1 P (evalV I env) S (.fieldAddr 49 (.tmp 50) 0)) (.inRegion o7_43 rest :: k) (some 51) env) ∧
  (regS P I next stop o7_43 3 rest k env S = bindS next (op1 P (evalV I env) S (.load 3 (.tmp 51))) (.inRegion o7_43 rest :: k) (some 52) env) ∧
  (regS P I next stop o7_43 4 rest k env S = bindS next (opCall P (evalV I env) S { callee := .builtin .min, args := #[.tmp 52, .const (.int .i64 60001)], argTypes := #[3, 3] }) (.inRegion o7_43 rest :: k) (some 53) env) ∧
  (regS P I next stop o7_43 5 rest k env S = bindS next (op1 P (evalV I env) S (.assign (.tmp 53))) (.inRegion o7_43 rest :: k) (some 2) env) := by
  repeat' apply And.intro
  all_goals kernel_rfl
set_option linter.defProp false in
/-- All of these. -/
def c7 := And.intro @c7s (@c7r)

theorem stN_nn : ∀ (n : Nat) (s : StT), 0 ≤ stN n s
  | 0, _ => Int.le_refl _
  | n + 1, s => by
    have h1 := ecsS_pos s.lefts
    have h2 := ecsS_pos s.exprs
    have h3 := sumS_pos (stN_nn n) s.body
    have h4 := sumS_pos (stN_nn n) s.els
    have h5 := sumS_pos (fun c : CaT => by have := sumS_pos (stN_nn n) c.body; show 0 ≤ 1 + sumS (stN n) c.body; omega) s.cases
    have h6 := tcS_nn s.type
    unfold stN
    split <;> omega
def caN (n : Nat) (c : CaT) : Int := 1 + sumS (stN n) c.body
theorem caN_nn (n : Nat) (c : CaT) : 0 ≤ caN n c := by have := sumS_pos (stN_nn n) c.body; unfold caN; omega
theorem stN_succ (n : Nat) (s : StT) : stN (n + 1) s = 1 + (if zeroS s.type = true then 0 else tcS s.type) + ecsS s.lefts + ecsS s.exprs + sumS (stN n) s.body + sumS (stN n) s.els + sumS (caN n) s.cases := rfl
def CSt (n : Nat) (l : List StT) : Prop := (∀ x ∈ l, Dp n x) → ∀ (c : Nat) (p : Int) (B : List (List V)) (T : List (Nat × Nat)), B[c]? = some [.d (.int .i64 p)] → 0 ≤ p → p + sumS (stN n) l ≤ 60000 →
    AFn Tryd.prog TabI 17 [.ptr c 0, .d (.sl (l.map stD))] ⟨B, T⟩ (Same (.tup []) ⟨B.set c [.d (.int .i64 (p + sumS (stN n) l))], T⟩)
set_option maxHeartbeats 4000000 in
theorem cst_step (n : Nat) (hn1 : ∀ m, n = m + 1 → ∀ l, CSt m l) (l : List StT) : CSt n l := by
  intro hD c p B T hB hp hle
  obtain ⟨N, hn⟩ : ∃ N, B.length = N := ⟨_, rfl⟩
  have hc := (List.getElem?_eq_some_iff.1 hB).1
  have hi : c < N := by omega
  have hi1 : c < N + 1 := by omega
  have hN1 : N < N + 1 := by omega
  have hbs : B.set c [.d (.int .i64 p)] = B := by
    obtain ⟨_, h⟩ := List.getElem?_eq_some_iff.1 hB
    rw [← h, List.set_getElem_self]
  generalize hres : p + sumS (stN n) l = res at hle ⊢
  refine AFn.bodyE (body := k17_0) 71 Tryd.func17 (by kernel_rfl) (by kernel_rfl) (by kernel_rfl) (Nat.le_of_ble_eq_true rfl) fun hsm => ?_
  simp only [smL, sm, exV, stV, tyV, caV, paV, suV, fuV, prV, Bool.and_eq_true, decide_eq_true_eq, and_true, true_and, List.length_map, ssD_length] at hsm
  refine ARun.go 10 ?_
  simp -implicitDefEqProofs only [awC, awN, Nat.reduceAdd, Nat.reduceSub, Nat.reduceLT, Nat.reduceLeDiff, Nat.reduceEqDiff, Int.reduceToNat, Int.reduceEq, Int.reduceLT, Int.reduceLE, Int.reduceNeg, Int.reduceAdd, Int.reduceSub, Nat.reduceBEq, awT, c17, tys, hn, hi]
  refine ARun.fits fun hf => ?_
  refine ARun.loopB (fun a : Nat × Int => (envS 71 [(0, .ptr c 0), (8, .d (.sl (l.map stD))), (9, .d (.int .i64 l.length)), (10, .d (.int .i64 a.1))], ⟨B.set c [.d (.int .i64 a.2)], T⟩)) (fun a => a.1 ≤ l.length ∧ 0 ≤ a.2 ∧ a.2 + sumS (stN n) (l.drop a.1) = res) (fun a => l.length - a.1) (0, p) ⟨by omega, hp, hres⟩ ?_ (by rw [hbs]) ?_
  · skip
    refine Agree.env _ ?_
    simp only [agree_cons, agree_nil, eq_self, and_self, true_and, and_true, Int.natCast_add, Int.natCast_one, Int.natCast_zero, envS_get, envS_eval, lk_cons, lk_nil, Nat.reduceBEq, Nat.reduceAdd, Nat.reduceSub, cond_true, cond_false, hn]
  rintro ⟨i, q⟩ ⟨h1, h2, h3⟩ ih
  dsimp only at h1 h2 h3 ih ⊢
  by_cases hlt : i < l.length
  · have hw := wrap_in ((i : Int) + 1) (by omega)
    have hlt' : decide ((i : Int) < (l.length : Int)) = true := decide_eq_true (by omega)
    have hg := List.getElem?_eq_getElem hlt
    have hdx := hD l[i] (List.getElem_mem hlt)
    rw [drop_get hlt] at h3
    obtain ⟨x, hx⟩ : ∃ x, l[i] = x := ⟨_, rfl⟩
    rw [hx] at hg h3 hdx
    obtain ⟨m, rfl⟩ : ∃ m, n = m + 1 := by
      cases n with
      | zero => exact hdx.elim
      | succ m => exact ⟨m, rfl⟩
    have hst := hn1 m rfl
    obtain ⟨hdb, hde, hdc⟩ := hdx
    change q + (stN (m + 1) x + sumS (stN (m + 1)) (l.drop (i + 1))) = res at h3
    have hx1 := stN_succ m x
    have hy1 := ecsS_pos x.lefts
    have hy2 := ecsS_pos x.exprs
    have hy3 := sumS_pos (stN_nn m) x.body
    have hy4 := sumS_pos (stN_nn m) x.els
    have hy5 := sumS_pos (caN_nn m) x.cases
    have hy6 := sumS_pos (stN_nn (m + 1)) (l.drop (i + 1))
    have hy7 := tcS_nn x.type
    have hwq := wrap_in (q + 1) (by omega)
    have hz := zero_ab x.type
    unfold tyV at hz
    have hg6 : decide (60000 < q + 1) = false := decide_eq_false (by split at hx1 <;> omega)
    refine ARun.go 200 ?_
    simp -implicitDefEqProofs only [awC, awN, Nat.reduceAdd, Nat.reduceSub, Nat.reduceLT, Nat.reduceLeDiff, Nat.reduceEqDiff, Int.reduceToNat, Int.reduceEq, Int.reduceLT, Int.reduceLE, Int.reduceNeg, Int.reduceAdd, Int.reduceSub, Nat.reduceBEq, awT, c17, tys, hn, hi, List.getElem?_map, hg, hlt', hwq, stD_eq, hg6]
    refine callS_fn (hz _ _) ?_
    rintro _ _ ⟨rfl, rfl⟩
    cases hzs : zeroS x.type
    case' false =>
      rw [hzs] at hx1
      simp only [Bool.false_eq_true, if_false] at hx1
      refine ARun.go 200 ?_
      simp -implicitDefEqProofs only [awC, awN, Nat.reduceAdd, Nat.reduceSub, Nat.reduceLT, Nat.reduceLeDiff, Nat.reduceEqDiff, Int.reduceToNat, Int.reduceEq, Int.reduceLT, Int.reduceLE, Int.reduceNeg, Int.reduceAdd, Int.reduceSub, Nat.reduceBEq, awT, c17, tys, hn, hi, hzs, mapD_nil, mapD_cons, Nat.reduceMul]
      refine callS_fn (ctyp1_ab x.type c (q + 1) _ T _ (by rw [bx_old (by simp; omega)]; exact bx_get hc) (by omega) (by omega)) ?_
      rintro _ _ ⟨rfl, rfl⟩
      obtain ⟨q2, hq2⟩ : ∃ q2, q + 1 + tcS x.type = q2 := ⟨_, rfl⟩
      have hb2 : 0 ≤ q2 ∧ q2 + (ecsS x.lefts + ecsS x.exprs + sumS (stN m) x.body + sumS (stN m) x.els + sumS (caN m) x.cases + sumS (stN (m + 1)) (l.drop (i + 1))) = res := by omega
      rw [hq2]
      refine ARun.go 200 ?_
      simp -implicitDefEqProofs only [awC, awN, Nat.reduceAdd, Nat.reduceSub, Nat.reduceLT, Nat.reduceLeDiff, Nat.reduceEqDiff, Int.reduceToNat, Int.reduceEq, Int.reduceLT, Int.reduceLE, Int.reduceNeg, Int.reduceAdd, Int.reduceSub, Nat.reduceBEq, awT, c17, tys, hn, hi]
    case' true =>
      rw [hzs] at hx1
      simp only [if_true] at hx1
      obtain ⟨q2, hq2⟩ : ∃ q2, q + 1 = q2 := ⟨_, rfl⟩
      have hb2 : 0 ≤ q2 ∧ q2 + (ecsS x.lefts + ecsS x.exprs + sumS (stN m) x.body + sumS (stN m) x.els + sumS (caN m) x.cases + sumS (stN (m + 1)) (l.drop (i + 1))) = res := by omega
      rw [hq2]
      refine ARun.go 200 ?_
      simp -implicitDefEqProofs only [awC, awN, Nat.reduceAdd, Nat.reduceSub, Nat.reduceLT, Nat.reduceLeDiff, Nat.reduceEqDiff, Int.reduceToNat, Int.reduceEq, Int.reduceLT, Int.reduceLE, Int.reduceNeg, Int.reduceAdd, Int.reduceSub, Nat.reduceBEq, awT, c17, tys, hn, hi, hzs]
    all_goals
      clear hq2 hx1 h3 hz hwq hg6
      refine callS_fn (cexprs_ab x.lefts c q2 _ T (by rw [bx_old (by simp; omega)]; exact bx_get hc) (by omega) (by omega)) ?_
      rintro _ _ ⟨rfl, rfl⟩
      refine ARun.go 200 ?_
      simp -implicitDefEqProofs only [awC, awN, Nat.reduceAdd, Nat.reduceSub, Nat.reduceLT, Nat.reduceLeDiff, Nat.reduceEqDiff, Int.reduceToNat, Int.reduceEq, Int.reduceLT, Int.reduceLE, Int.reduceNeg, Int.reduceAdd, Int.reduceSub, Nat.reduceBEq, awT, c17, tys, hn, hi]
      refine callS_fn (cexprs_ab x.exprs c (q2 + ecsS x.lefts) _ T (by rw [bx_old (by simp; omega)]; exact bx_get hc) (by omega) (by omega)) ?_
      rintro _ _ ⟨rfl, rfl⟩
      refine ARun.go 200 ?_
      simp -implicitDefEqProofs only [awC, awN, Nat.reduceAdd, Nat.reduceSub, Nat.reduceLT, Nat.reduceLeDiff, Nat.reduceEqDiff, Int.reduceToNat, Int.reduceEq, Int.reduceLT, Int.reduceLE, Int.reduceNeg, Int.reduceAdd, Int.reduceSub, Nat.reduceBEq, awT, c17, tys, hn, hi]
      refine callS_fn (hst x.body hdb c (q2 + ecsS x.lefts + ecsS x.exprs) _ T (by rw [bx_old (by simp; omega)]; exact bx_get hc) (by omega) (by omega)) ?_
      rintro _ _ ⟨rfl, rfl⟩
      refine ARun.go 200 ?_
      simp -implicitDefEqProofs only [awC, awN, Nat.reduceAdd, Nat.reduceSub, Nat.reduceLT, Nat.reduceLeDiff, Nat.reduceEqDiff, Int.reduceToNat, Int.reduceEq, Int.reduceLT, Int.reduceLE, Int.reduceNeg, Int.reduceAdd, Int.reduceSub, Nat.reduceBEq, awT, c17, tys, hn, hi]
      refine callS_fn (hst x.els hde c (q2 + ecsS x.lefts + ecsS x.exprs + sumS (stN m) x.body) _ T (by rw [bx_old (by simp; omega)]; exact bx_get hc) (by omega) (by omega)) ?_
      rintro _ _ ⟨rfl, rfl⟩
      refine ARun.go 200 ?_
      simp -implicitDefEqProofs only [awC, awN, Nat.reduceAdd, Nat.reduceSub, Nat.reduceLT, Nat.reduceLeDiff, Nat.reduceEqDiff, Int.reduceToNat, Int.reduceEq, Int.reduceLT, Int.reduceLE, Int.reduceNeg, Int.reduceAdd, Int.reduceSub, Nat.reduceBEq, awT, c17, tys, hn, hi]
      obtain ⟨q3, hq3⟩ : ∃ q3, q2 + ecsS x.lefts + ecsS x.exprs + sumS (stN m) x.body + sumS (stN m) x.els = q3 := ⟨_, rfl⟩
      rw [hq3]
      have hb3 : 0 ≤ q3 ∧ q3 + sumS (caN m) x.cases + sumS (stN (m + 1)) (l.drop (i + 1)) = res := by omega
      clear hq3 hb2
      refine ARun.fits fun hfi => ?_
      have hf2 : ∀ q' : Int, Fits ⟨B.set c [.d (.int .i64 q')] ++ [stB x], T⟩ := fun q' => by
        have := hfi.set (i := c) (vs := [.d (.int .i64 q')]) rfl
        rw [bx_set_old (by simp; omega), List.set_set] at this
        exact this
      clear hfi
      refine ARun.small fun hsm2 => ?_
      have hcl : x.cases.length ≤ 9223372036854775807 := by
        have := (smL_iff _).1 hsm2 52 (by simp [envS])
        simpa [envS, lk, sm] using this
      clear hsm2
      refine ARun.loopB (fun b : Nat × Int => (envS 71 [(0, .ptr c 0), (8, .d (.sl (l.map stD))), (9, .d (.int .i64 l.length)), (10, .d (.int .i64 i)), (52, .d (.sl (x.cases.map caD))), (53, .d (.int .i64 x.cases.length)), (54, .d (.int .i64 b.1))], ⟨B.set c [.d (.int .i64 b.2)] ++ [stB x], T⟩)) (fun b => b.1 ≤ x.cases.length ∧ 0 ≤ b.2 ∧ b.2 + sumS (caN m) (x.cases.drop b.1) + sumS (stN (m + 1)) (l.drop (i + 1)) = res) (fun b => x.cases.length - b.1) (0, q3) ⟨by omega, hb3.1, hb3.2⟩ ?_ rfl ?_
      · skip
        refine Agree.env _ ?_
        simp only [agree_cons, agree_nil, eq_self, and_self, true_and, and_true, Int.natCast_add, Int.natCast_one, Int.natCast_zero, envS_get, envS_eval, lk_cons, lk_nil, Nat.reduceBEq, Nat.reduceAdd, Nat.reduceSub, cond_true, cond_false, hn]
      rintro ⟨j, r⟩ ⟨g1, g2, g3⟩ ih2
      dsimp only at g1 g2 g3 ih2 ⊢
      dsimp only [stB]
      by_cases hjt : j < x.cases.length
      · have hwj := wrap_in ((j : Int) + 1) (by omega)
        have hjt' : decide ((j : Int) < (x.cases.length : Int)) = true := decide_eq_true (by omega)
        have hgj := List.getElem?_eq_getElem hjt
        have hdk := hdc x.cases[j] (List.getElem_mem hjt)
        rw [drop_get hjt] at g3
        obtain ⟨k, hk⟩ : ∃ k, x.cases[j] = k := ⟨_, rfl⟩
        rw [hk] at hgj g3 hdk
        change r + (caN m k + sumS (caN m) (x.cases.drop (j + 1))) + sumS (stN (m + 1)) (l.drop (i + 1)) = res at g3
        have hk1 : caN m k = 1 + sumS (stN m) k.body := rfl
        have hk2 := sumS_pos (stN_nn m) k.body
        have hk3 := sumS_pos (caN_nn m) (x.cases.drop (j + 1))
        have hwr := wrap_in (r + 1) (by omega)
        refine ARun.go 200 ?_
        simp -implicitDefEqProofs only [awC, awN, Nat.reduceAdd, Nat.reduceSub, Nat.reduceLT, Nat.reduceLeDiff, Nat.reduceEqDiff, Int.reduceToNat, Int.reduceEq, Int.reduceLT, Int.reduceLE, Int.reduceNeg, Int.reduceAdd, Int.reduceSub, Nat.reduceBEq, awT, c17, tys, hn, hi, List.getElem?_map, hgj, hjt', hwr, caD_eq]
        refine callS_fn (hst k.body hdk c (r + 1) _ T (by rw [bx_old (by simp; omega)]; exact bx_get hc) (by omega) (by omega)) ?_
        rintro _ _ ⟨rfl, rfl⟩
        refine ARun.go 200 ?_
        simp -implicitDefEqProofs only [awC, awN, Nat.reduceAdd, Nat.reduceSub, Nat.reduceLT, Nat.reduceLeDiff, Nat.reduceEqDiff, Int.reduceToNat, Int.reduceEq, Int.reduceLT, Int.reduceLE, Int.reduceNeg, Int.reduceAdd, Int.reduceSub, Nat.reduceBEq, awT, c17, tys, hn, hi, hwj]
        rw [app2]
        refine ih2 (j + 1, r + 1 + sumS (stN m) k.body) ⟨hjt, by dsimp only; omega, by dsimp only; omega⟩ (by dsimp only; omega) _ _ _ _ rfl ⟨by simp; omega, Nat.le_refl _⟩ (hf2 _) ?_
        refine AgreeF.env _ ?_
        simp only [agreeF_cons, agreeF_nil, fit, fitL, eq_self, and_self, true_and, and_true, Bool.and_true, Bool.true_and, Bool.and_self, decide_true, List.length_set, Int.natCast_add, Int.natCast_one, Int.natCast_zero, envS_get, envS_eval, lk_cons, lk_nil, Nat.reduceBEq, Nat.reduceAdd, Nat.reduceSub, cond_true, cond_false, hn, hi, hi1, hN1, List.length_append, List.length_cons, List.length_nil, Nat.zero_add, Nat.reduceAdd]
      · have hjt' : decide ((j : Int) < (x.cases.length : Int)) = false := decide_eq_false (by omega)
        rw [List.drop_eq_nil_of_le (by omega)] at g3
        change r + 0 + _ = res at g3
        refine ARun.go 200 ?_
        simp -implicitDefEqProofs only [awC, awN, Nat.reduceAdd, Nat.reduceSub, Nat.reduceLT, Nat.reduceLeDiff, Nat.reduceEqDiff, Int.reduceToNat, Int.reduceEq, Int.reduceLT, Int.reduceLE, Int.reduceNeg, Int.reduceAdd, Int.reduceSub, Nat.reduceBEq, awT, c17, tys, hn, hi, hjt', hw]
        refine ih (i + 1, r) ⟨hlt, g2, by dsimp only; omega⟩ (by dsimp only; omega) _ _ _ _ rfl ⟨by simp; omega, Nat.le_refl _⟩ (hf.set rfl) ?_
        refine AgreeF.env _ ?_
        simp only [agreeF_cons, agreeF_nil, fit, fitL, eq_self, and_self, true_and, and_true, Bool.and_true, Bool.true_and, Bool.and_self, decide_true, List.length_set, Int.natCast_add, Int.natCast_one, Int.natCast_zero, envS_get, envS_eval, lk_cons, lk_nil, Nat.reduceBEq, Nat.reduceAdd, Nat.reduceSub, cond_true, cond_false, hn, hi]
  · have hlt' : decide ((i : Int) < (l.length : Int)) = false := decide_eq_false (by omega)
    rw [List.drop_eq_nil_of_le (by omega)] at h3
    change q + 0 = res at h3
    refine ARun.go 200 ?_
    simp -implicitDefEqProofs only [awC, awN, Nat.reduceAdd, Nat.reduceSub, Nat.reduceLT, Nat.reduceLeDiff, Nat.reduceEqDiff, Int.reduceToNat, Int.reduceEq, Int.reduceLT, Int.reduceLE, Int.reduceNeg, Int.reduceAdd, Int.reduceSub, Nat.reduceBEq, awT, c17, tys, hn, hi, hlt']
    refine ARun.fin Tryd.func17 rfl (Left.set0 rfl ?_)
    rw [← h3, Int.add_zero]
    exact ⟨rfl, rfl⟩
theorem cst_ab : ∀ (n : Nat) (l : List StT), CSt n l
  | 0, l => cst_step 0 (fun m h => by omega) l
  | n + 1, l => cst_step (n + 1) (fun m h => by obtain rfl : n = m := by omega
                                                exact cst_ab n) l
theorem sumS_one {α : Type} (f : α → Int) : ∀ l : List α, sumS (fun x => 1 + f x) l = l.length + sumS f l
  | [] => by simp [sumS]
  | x :: l => by
    show (1 + f x) + sumS (fun x => 1 + f x) l = ((l.length + 1 : Nat) : Int) + (f x + sumS f l)
    rw [sumS_one f l]
    omega
def suP (s : SuT) : Int := paC s.fields
def fuP (n : Nat) (f : FuT) : Int := paC f.params + sumS tcS f.results + sumS (stN n) f.body
theorem fuP_nn (n : Nat) (f : FuT) : 0 ≤ fuP n f := by
  have h1 := paC_pos f.params
  have h2 := sumS_pos tcS_nn f.results
  have h3 := sumS_pos (stN_nn n) f.body
  unfold fuP; omega
theorem prN_parts (n : Nat) (p : PrT) : prN n p = ((p.structs.length : Int) + p.funcs.length) + sumS suP p.structs + sumS (fuP n) p.funcs := by
  have h1 := sumS_one suP p.structs
  have h2 := sumS_one (fuP n) p.funcs
  have e1 : sumS suC p.structs = sumS (fun x => 1 + suP x) p.structs := rfl
  have e2 : sumS (fuN n) p.funcs = sumS (fun x => 1 + fuP n x) p.funcs := sumS_congr _ fun x _ => by unfold fuN fuP; omega
  unfold prN
  rw [e1, e2, h1, h2]
  omega
set_option maxHeartbeats 4000000 in
theorem parts_ab0 (n : Nat) (pr : PrT) (hD : ∀ f ∈ pr.funcs, ∀ x ∈ f.body, Dp n x) (hle : prN n pr ≤ 60000) :
    AFn Tryd.prog TabI 7 [prV pr] ⟨[], []⟩ (Same (.d (.int .i64 (prN n pr))) ⟨[], []⟩) := by
  have hpn := prN_parts n pr
  have hn1 := sumS_pos (fun s : SuT => paC_pos s.fields) pr.structs
  have hn2 := sumS_pos (fuP_nn n) pr.funcs
  change 0 ≤ sumS suP pr.structs at hn1
  generalize hres : prN n pr = res at hle hpn ⊢
  unfold prV
  have hwl := wrap_in ((pr.structs.length : Int) + pr.funcs.length) (by omega)
  refine AFn.bodyE (body := k7_0) 54 Tryd.func7 (by kernel_rfl) (by kernel_rfl) (by kernel_rfl) (Nat.le_of_ble_eq_true rfl) fun hsm => ?_
  simp only [smL, sm, exV, stV, tyV, caV, paV, suV, fuV, prV, Bool.and_eq_true, decide_eq_true_eq, and_true, true_and, List.length_map, ssD_length] at hsm
  refine ARun.go 40 ?_
  simp -implicitDefEqProofs only [awC, awN, Nat.reduceAdd, Nat.reduceSub, Nat.reduceLT, Nat.reduceLeDiff, Nat.reduceEqDiff, Int.reduceToNat, Int.reduceEq, Int.reduceLT, Int.reduceLE, Int.reduceNeg, Int.reduceAdd, Int.reduceSub, Nat.reduceBEq, awT, c7, tys, hwl]
  refine ARun.fits fun hf => ?_
  have hf2 : ∀ q : Int, Fits ⟨[[.d (.sl (pr.structs.map suD)), .d (.sl (pr.funcs.map fuD))], [.d (.int .i64 q)]], []⟩ := fun q vs hvs => by
    simp only [List.mem_cons, List.not_mem_nil, or_false] at hvs
    rcases hvs with rfl | rfl <;> rfl
  refine ARun.loopB (fun a : Nat × Int => (envS 54 [(1, .ptr 0 0), (3, .ptr 1 0), (18, .d (.sl (pr.structs.map suD))), (19, .d (.int .i64 pr.structs.length)), (20, .d (.int .i64 a.1))], ⟨[[.d (.sl (pr.structs.map suD)), .d (.sl (pr.funcs.map fuD))], [.d (.int .i64 a.2)]], []⟩)) (fun a => a.1 ≤ pr.structs.length ∧ 0 ≤ a.2 ∧ a.2 + sumS suP (pr.structs.drop a.1) + sumS (fuP n) pr.funcs = res) (fun a => pr.structs.length - a.1) (0, (pr.structs.length : Int) + pr.funcs.length) ⟨by omega, by dsimp only; omega, hpn.symm⟩ ?_ rfl ?_
  · skip
    refine Agree.env _ ?_
    simp only [agree_cons, agree_nil, eq_self, and_self, true_and, and_true, Int.natCast_add, Int.natCast_one, Int.natCast_zero, envS_get, envS_eval, lk_cons, lk_nil, Nat.reduceBEq, Nat.reduceAdd, Nat.reduceSub, cond_true, cond_false]
  rintro ⟨i, q⟩ ⟨h1, h2, h3⟩ ih
  dsimp only at h1 h2 h3 ih ⊢
  by_cases hlt : i < pr.structs.length
  · have hw := wrap_in ((i : Int) + 1) (by omega)
    have hlt' : decide ((i : Int) < (pr.structs.length : Int)) = true := decide_eq_true (by omega)
    have hg := List.getElem?_eq_getElem hlt
    rw [drop_get hlt] at h3
    obtain ⟨x, hx⟩ : ∃ x, pr.structs[i] = x := ⟨_, rfl⟩
    rw [hx] at hg h3
    change q + (suP x + sumS suP (pr.structs.drop (i + 1))) + _ = res at h3
    have hy1 : 0 ≤ suP x := paC_pos x.fields
    have hy2 : 0 ≤ sumS suP (pr.structs.drop (i + 1)) := sumS_pos (fun s : SuT => paC_pos s.fields) _
    have hy3 : suP x = paC x.fields := rfl
    refine ARun.go 200 ?_
    simp -implicitDefEqProofs only [awC, awN, Nat.reduceAdd, Nat.reduceSub, Nat.reduceLT, Nat.reduceLeDiff, Nat.reduceEqDiff, Int.reduceToNat, Int.reduceEq, Int.reduceLT, Int.reduceLE, Int.reduceNeg, Int.reduceAdd, Int.reduceSub, Nat.reduceBEq, awT, c7, tys, List.getElem?_map, hg, hlt', suD_eq]
    refine callS_fn (cparams_ab x.fields 1 q _ _ rfl h2 (by omega)) ?_
    rintro _ _ ⟨rfl, rfl⟩
    refine ARun.go 200 ?_
    simp -implicitDefEqProofs only [awC, awN, Nat.reduceAdd, Nat.reduceSub, Nat.reduceLT, Nat.reduceLeDiff, Nat.reduceEqDiff, Int.reduceToNat, Int.reduceEq, Int.reduceLT, Int.reduceLE, Int.reduceNeg, Int.reduceAdd, Int.reduceSub, Nat.reduceBEq, awT, c7, tys, hw]
    refine ih (i + 1, q + paC x.fields) ⟨hlt, by dsimp only; omega, by dsimp only; omega⟩ (by dsimp only; omega) _ _ [[.d (.str x.name), .d (.sl (x.fields.map paD))]] _ rfl ⟨Nat.zero_le _, Nat.zero_le _⟩ (hf2 _) ?_
    refine AgreeF.env _ ?_
    simp only [agreeF_cons, agreeF_nil, fit, fitL, eq_self, and_self, true_and, and_true, Bool.and_true, Bool.true_and, Bool.and_self, decide_true, List.length_set, Int.natCast_add, Int.natCast_one, Int.natCast_zero, envS_get, envS_eval, lk_cons, lk_nil, Nat.reduceBEq, Nat.reduceAdd, Nat.reduceSub, cond_true, cond_false]
    exact ⟨rfl, rfl⟩
  · have hlt' : decide ((i : Int) < (pr.structs.length : Int)) = false := decide_eq_false (by omega)
    rw [List.drop_eq_nil_of_le (by omega)] at h3
    change q + 0 + _ = res at h3
    clear ih
    refine ARun.go 40 ?_
    simp -implicitDefEqProofs only [awC, awN, Nat.reduceAdd, Nat.reduceSub, Nat.reduceLT, Nat.reduceLeDiff, Nat.reduceEqDiff, Int.reduceToNat, Int.reduceEq, Int.reduceLT, Int.reduceLE, Int.reduceNeg, Int.reduceAdd, Int.reduceSub, Nat.reduceBEq, awT, c7, tys, hlt']
    refine ARun.loopB (fun a : Nat × Int => (envS 54 [(1, .ptr 0 0), (3, .ptr 1 0), (30, .d (.sl (pr.funcs.map fuD))), (31, .d (.int .i64 pr.funcs.length)), (32, .d (.int .i64 a.1))], ⟨[[.d (.sl (pr.structs.map suD)), .d (.sl (pr.funcs.map fuD))], [.d (.int .i64 a.2)]], []⟩)) (fun a => a.1 ≤ pr.funcs.length ∧ 0 ≤ a.2 ∧ a.2 + sumS (fuP n) (pr.funcs.drop a.1) = res) (fun a => pr.funcs.length - a.1) (0, q) ⟨by omega, h2, by show q + sumS (fuP n) pr.funcs = res; omega⟩ ?_ rfl ?_
    · skip
      refine Agree.env _ ?_
      simp only [agree_cons, agree_nil, eq_self, and_self, true_and, and_true, Int.natCast_add, Int.natCast_one, Int.natCast_zero, envS_get, envS_eval, lk_cons, lk_nil, Nat.reduceBEq, Nat.reduceAdd, Nat.reduceSub, cond_true, cond_false]
    rintro ⟨j, r⟩ ⟨g1, g2, g3⟩ ih
    dsimp only at g1 g2 g3 ih ⊢
    by_cases hjt : j < pr.funcs.length
    · have hw := wrap_in ((j : Int) + 1) (by omega)
      have hjt' : decide ((j : Int) < (pr.funcs.length : Int)) = true := decide_eq_true (by omega)
      have hg := List.getElem?_eq_getElem hjt
      have hdx := hD pr.funcs[j] (List.getElem_mem hjt)
      rw [drop_get hjt] at g3
      obtain ⟨x, hx⟩ : ∃ x, pr.funcs[j] = x := ⟨_, rfl⟩
      rw [hx] at hg g3 hdx
      change r + (fuP n x + sumS (fuP n) (pr.funcs.drop (j + 1))) = res at g3
      have hy1 := paC_pos x.params
      have hy2 := sumS_pos tcS_nn x.results
      have hy3 := sumS_pos (stN_nn n) x.body
      have hy4 := sumS_pos (fuP_nn n) (pr.funcs.drop (j + 1))
      have hy5 : fuP n x = paC x.params + sumS tcS x.results + sumS (stN n) x.body := rfl
      refine ARun.go 200 ?_
      simp -implicitDefEqProofs only [awC, awN, Nat.reduceAdd, Nat.reduceSub, Nat.reduceLT, Nat.reduceLeDiff, Nat.reduceEqDiff, Int.reduceToNat, Int.reduceEq, Int.reduceLT, Int.reduceLE, Int.reduceNeg, Int.reduceAdd, Int.reduceSub, Nat.reduceBEq, awT, c7, tys, List.getElem?_map, hg, hjt', fuD_eq]
      refine callS_fn (cparams_ab x.params 1 r _ _ rfl g2 (by omega)) ?_
      rintro _ _ ⟨rfl, rfl⟩
      refine ARun.go 200 ?_
      simp -implicitDefEqProofs only [awC, awN, Nat.reduceAdd, Nat.reduceSub, Nat.reduceLT, Nat.reduceLeDiff, Nat.reduceEqDiff, Int.reduceToNat, Int.reduceEq, Int.reduceLT, Int.reduceLE, Int.reduceNeg, Int.reduceAdd, Int.reduceSub, Nat.reduceBEq, awT, c7, tys]
      refine callS_fn (ctyp_ab x.results 1 (r + paC x.params) _ _ rfl (by omega) (by omega)) ?_
      rintro _ _ ⟨rfl, rfl⟩
      refine ARun.go 200 ?_
      simp -implicitDefEqProofs only [awC, awN, Nat.reduceAdd, Nat.reduceSub, Nat.reduceLT, Nat.reduceLeDiff, Nat.reduceEqDiff, Int.reduceToNat, Int.reduceEq, Int.reduceLT, Int.reduceLE, Int.reduceNeg, Int.reduceAdd, Int.reduceSub, Nat.reduceBEq, awT, c7, tys]
      refine callS_fn (cst_ab n x.body hdx 1 (r + paC x.params + sumS tcS x.results) _ _ rfl (by omega) (by omega)) ?_
      rintro _ _ ⟨rfl, rfl⟩
      refine ARun.go 200 ?_
      simp -implicitDefEqProofs only [awC, awN, Nat.reduceAdd, Nat.reduceSub, Nat.reduceLT, Nat.reduceLeDiff, Nat.reduceEqDiff, Int.reduceToNat, Int.reduceEq, Int.reduceLT, Int.reduceLE, Int.reduceNeg, Int.reduceAdd, Int.reduceSub, Nat.reduceBEq, awT, c7, tys, hw]
      refine ih (j + 1, r + paC x.params + sumS tcS x.results + sumS (stN n) x.body) ⟨hjt, by dsimp only; omega, by dsimp only; omega⟩ (by dsimp only; omega) _ _ [[.d (.str x.name), .d (.sl (x.params.map paD)), .d (.sl (x.results.map tyD)), .d (.sl (x.body.map stD))]] _ rfl ⟨Nat.zero_le _, Nat.zero_le _⟩ (hf2 _) ?_
      refine AgreeF.env _ ?_
      simp only [agreeF_cons, agreeF_nil, fit, fitL, eq_self, and_self, true_and, and_true, Bool.and_true, Bool.true_and, Bool.and_self, decide_true, List.length_set, Int.natCast_add, Int.natCast_one, Int.natCast_zero, envS_get, envS_eval, lk_cons, lk_nil, Nat.reduceBEq, Nat.reduceAdd, Nat.reduceSub, cond_true, cond_false]
      exact ⟨rfl, rfl⟩
    · have hjt' : decide ((j : Int) < (pr.funcs.length : Int)) = false := decide_eq_false (by omega)
      rw [List.drop_eq_nil_of_le (by omega)] at g3
      change r + 0 = res at g3
      have hmin : ¬ (60001 : Int) < r := by omega
      refine ARun.go 200 ?_
      simp -implicitDefEqProofs only [awC, awN, Nat.reduceAdd, Nat.reduceSub, Nat.reduceLT, Nat.reduceLeDiff, Nat.reduceEqDiff, Int.reduceToNat, Int.reduceEq, Int.reduceLT, Int.reduceLE, Int.reduceNeg, Int.reduceAdd, Int.reduceSub, Nat.reduceBEq, awT, c7, tys, hjt', hmin]
      refine ARun.ret Tryd.func7 rfl (Left.empty ?_)
      rw [← g3, Int.add_zero]
      exact ⟨rfl, rfl⟩
theorem parts_ab (n : Nat) (pr : PrT) (hD : ∀ f ∈ pr.funcs, ∀ x ∈ f.body, Dp n x) (hle : prN n pr ≤ 60000) (S : Mem) : AFn Tryd.prog TabI 7 [prV pr] S (Same (.d (.int .i64 (prN n pr))) S) := (parts_ab0 n pr hD hle).same rfl rfl S
end Go.Proofs.YtombghldgdcjcaaDoor

/- The document's counts, as the machine reckons them: types, expressions, statements. -/
namespace Go.Proofs.YtombghldgdcjcaaDoor
open Go.RowKit Go.Av Go.Ab
set_option linter.unusedSimpArgs false
set_option maxRecDepth 100000
noncomputable def k56_0 : Code := bodyOf Tryd.f56
noncomputable def k56_1 : Code := lft k56_0
noncomputable def o56_1 : Array Oper := opsOf k56_1
noncomputable def k56_2 : Code := rgt k56_0
noncomputable def k56_3 : Code := lft k56_2
noncomputable def o56_3 : Array Oper := opsOf k56_3
noncomputable def p56_3_4 : Oper := opAt o56_3 4
noncomputable def p56_3_5 : Oper := opAt o56_3 5
noncomputable def p56_3_6 : Oper := opAt o56_3 6
noncomputable def p56_3_9 : Oper := opAt o56_3 9
noncomputable def p56_3_10 : Oper := opAt o56_3 10
noncomputable def p56_3_11 : Oper := opAt o56_3 11
noncomputable def p56_3_12 : Oper := opAt o56_3 12
noncomputable def k56_4 : Code := rgt k56_2
theorem c56s (I : Inv) (next stop : Cont) (k : List Item) (env : List V) (S : Mem) : (codeS I next stop k56_1 k env S = next (.inRegion o56_1 [0, 1] :: k) env S) ∧
  (codeS I next stop k56_3 k env S = next (.inRegion o56_3 [0, 1, 2, 3, 4, 5, 6, 7, 8, 9, 10, 11, 12, 13, 14] :: k) env S) ∧
  (codeS I next stop k56_4 k env S = stop (.code .ret :: k) env S) ∧
  (codeS I next stop k56_2 k env S = next (.code k56_3 :: .code k56_4 :: k) env S) ∧
  (codeS I next stop k56_0 k env S = next (.code k56_1 :: .code k56_2 :: k) env S) := by
  repeat' apply And.intro
  all_goals kernel_rfl
theorem c56r (P : Program) (I : Inv) (next stop : Cont) (rest : List Nat) (k : List Item) (env : List V) (S : Mem) : (regS P I next stop o56_1 0 rest k env S = bindS next (op1 P (evalV I env) S (.box 34 (.tmp 0))) (.inRegion o56_1 rest :: k) (some 1) env) ∧
  (regS P I next stop o56_1 1 rest k env S = bindS next (op1 P (evalV I env) S (.assign (.const (.bool false)))) (.inRegion o56_1 rest :: k) (some 2) env) ∧
  (regS P I next stop o56_3 0 rest k env S = bindS next (op1 P (evalV I env) S (.fieldAddr 34 (.tmp 1) 0)) (.inRegion o56_3 rest :: k) (some 3) env) ∧
  (regS P I next stop o56_3 1 rest k env S = bindS next (op1 P (evalV I env) S (.load 3 (.tmp 3))) (.inRegion o56_3 rest :: k) (some 4) env) ∧
  (regS P I next stop o56_3 2 rest k env S = bindS next (op1 P (evalV I env) S (.binOp .eql 3 (.tmp 4) (.const (.int .i64 0)) 3)) (.inRegion o56_3 rest :: k) (some 5) env) ∧
  (regS P I next stop o56_3 3 rest k env S = bindS next (op1 P (evalV I env) S (.move (.tmp 5))) (.inRegion o56_3 rest :: k) (some 6) env) ∧
  (regS P I next stop o56_3 4 rest k env S = guardS P I next stop (env.getD 6 .undef) true o56_3 rest p56_3_4 k env S) ∧
  (doOp P I next stop o56_3 rest p56_3_4 k env S = bindS next (op1 P (evalV I env) S (.fieldAddr 34 (.tmp 1) 1)) (.inRegion o56_3 rest :: k) (some 7) env) ∧
  (regS P I next stop o56_3 5 rest k env S = guardS P I next stop (env.getD 6 .undef) true o56_3 rest p56_3_5 k env S) ∧
  (doOp P I next stop o56_3 rest p56_3_5 k env S = bindS next (op1 P (evalV I env) S (.load 9 (.tmp 7))) (.inRegion o56_3 rest :: k) (some 8) env) ∧
  (regS P I next stop o56_3 6 rest k env S = guardS P I next stop (env.getD 6 .undef) true o56_3 rest p56_3_6 k env S) ∧
  (doOp P I next stop o56_3 rest p56_3_6 k env S = bindS next (op1 P (evalV I env) S (.binOp .eql 9 (.tmp 8) (.const (.string { data := #[] })) 9)) (.inRegion o56_3 rest :: k) (some 9) env) ∧
  (regS P I next stop o56_3 7 rest k env S = bindS next (op1 P (evalV I env) S (.pick (.tmp 6) (.tmp 9) (.const (.bool false)))) (.inRegion o56_3 rest :: k) (some 10) env) ∧
  (regS P I next stop o56_3 8 rest k env S = bindS next (op1 P (evalV I env) S (.move (.tmp 10))) (.inRegion o56_3 rest :: k) (some 11) env) ∧
  (regS P I next stop o56_3 9 rest k env S = guardS P I next stop (env.getD 11 .undef) true o56_3 rest p56_3_9 k env S) ∧
  (doOp P I next stop o56_3 rest p56_3_9 k env S = bindS next (op1 P (evalV I env) S (.fieldAddr 34 (.tmp 1) 2)) (.inRegion o56_3 rest :: k) (some 12) env) ∧
  (regS P I next stop o56_3 10 rest k env S = guardS P I next stop (env.getD 11 .undef) true o56_3 rest p56_3_10 k env S) ∧
  (doOp P I next stop o56_3 rest p56_3_10 k env S = bindS next (op1 P (evalV I env) S (.load 32 (.tmp 12))) (.inRegion o56_3 rest :: k) (some 13) env) ∧
  (regS P I next stop o56_3 11 rest k env S = guardS P I next stop (env.getD 11 .undef) true o56_3 rest p56_3_11 k env S) ∧
  (doOp P I next stop o56_3 rest p56_3_11 k env S = bindS next (opCall P (evalV I env) S { callee := .builtin .len, args := #[.tmp 13], argTypes := #[32] }) (.inRegion o56_3 rest :: k) (some 14) env) ∧
  (regS P I next stop o56_3 12 rest k env S = guardS P I next stop (env.getD 11 .undef) true o56_3 rest p56_3_12 k env S) ∧
  (doOp P I next stop o56_3 rest p56_3_12 k env S = bindS next (op1 P (evalV I env) S (.binOp .eql 3 (.tmp 14) (.const (.int .i64 0)) 3)) (.inRegion o56_3 rest :: k) (some 15) env) ∧
  (regS P I next stop o56_3 13 rest k env S = bindS next (op1 P (evalV I env) S (.pick (.tmp 11) (.tmp 15) (.const (.bool false)))) (.inRegion o56_3 rest :: k) (some 16) env) ∧
  (regS P I next stop o56_3 14 rest k env S = bindS next (op1 P (evalV I env) S (.assign (.tmp 16))) (.inRegion o56_3 rest :: k) (some 2) env) := by
  repeat' apply And.intro
  all_goals kernel_rfl
theorem c56t  : (p56_3_4.dst = (some 7)) ∧
  (p56_3_5.dst = (some 8)) ∧
  (p56_3_6.dst = (some 9)) ∧
  (p56_3_9.dst = (some 12)) ∧
  (p56_3_10.dst = (some 13)) ∧
  (p56_3_11.dst = (some 14)) ∧
  (p56_3_12.dst = (some 15)) := by
  repeat' apply And.intro
  all_goals kernel_rfl
set_option linter.defProp false in
/-- All of these. -/
def c56 := And.intro @c56s ( And.intro @c56r (@c56t))
noncomputable def k33_0 : Code := bodyOf Tryd.f33
noncomputable def k33_1 : Code := lft k33_0
noncomputable def o33_1 : Array Oper := opsOf k33_1
noncomputable def k33_2 : Code := rgt k33_0
noncomputable def k33_3 : Code := lft k33_2
noncomputable def o33_3 : Array Oper := opsOf k33_3
noncomputable def k33_4 : Code := rgt k33_2
noncomputable def k33_5 : Code := lft k33_4
noncomputable def k33_6 : Code := lft k33_5
noncomputable def o33_6 : Array Oper := opsOf k33_6
noncomputable def k33_7 : Code := rgt k33_5
noncomputable def k33_8 : Code := lft k33_7
noncomputable def k33_9 : Code := lft k33_8
noncomputable def k33_10 : Code := lft k33_9
noncomputable def k33_11 : Code := lft k33_10
noncomputable def o33_11 : Array Oper := opsOf k33_11
noncomputable def p33_11_6 : Oper := opAt o33_11 6
noncomputable def p33_11_7 : Oper := opAt o33_11 7
noncomputable def p33_11_8 : Oper := opAt o33_11 8
noncomputable def k33_12 : Code := rgt k33_10
noncomputable def k33_13 : Code := lft k33_12
noncomputable def k33_14 : Code := rgt k33_12
noncomputable def k33_15 : Code := rgt k33_9
noncomputable def k33_16 : Code := lft k33_15
noncomputable def k33_17 : Code := lft k33_16
noncomputable def o33_17 : Array Oper := opsOf k33_17
noncomputable def k33_18 : Code := rgt k33_15
noncomputable def o33_18 : Array Oper := opsOf k33_18
noncomputable def k33_19 : Code := rgt k33_4
noncomputable def k33_20 : Code := lft k33_19
noncomputable def o33_20 : Array Oper := opsOf k33_20
noncomputable def k33_21 : Code := rgt k33_19
theorem c33s (I : Inv) (next stop : Cont) (k : List Item) (env : List V) (S : Mem) : (codeS I next stop k33_1 k env S = next (.inRegion o33_1 [0, 1] :: k) env S) ∧
  (codeS I next stop k33_3 k env S = next (.inRegion o33_3 [0] :: k) env S) ∧
  (codeS I next stop k33_6 k env S = next (.inRegion o33_6 [0] :: k) env S) ∧
  (codeS I next stop k33_11 k env S = next (.inRegion o33_11 [0, 1, 2, 3, 4, 5, 6, 7, 8, 9] :: k) env S) ∧
  (codeS I next stop k33_13 k env S = next k env S) ∧
  (codeS I next stop k33_14 k env S = exitV next (exitTo 0 k) env S) ∧
  (codeS I next stop k33_12 k env S = condV next (evalV I env (.tmp 16)) k33_13 k33_14 k env S) ∧
  (codeS I next stop k33_10 k env S = next (.code k33_11 :: .code k33_12 :: k) env S) ∧
  (codeS I next stop k33_17 k env S = next (.inRegion o33_17 [0, 1, 2, 3, 4, 5, 6, 7, 8, 9, 10, 11] :: k) env S) ∧
  (codeS I next stop k33_16 k env S = next (.code k33_17 :: .inBlock 1 :: k) env S) ∧
  (codeS I next stop k33_18 k env S = next (.inRegion o33_18 [0, 1, 2] :: k) env S) ∧
  (codeS I next stop k33_15 k env S = next (.code k33_16 :: .code k33_18 :: k) env S) ∧
  (codeS I next stop k33_9 k env S = next (.code k33_10 :: .code k33_15 :: k) env S) ∧
  (codeS I next stop k33_8 k env S = stop (.code (.loop k33_9) :: k) env S) ∧
  (codeS I next stop k33_7 k env S = next (.code k33_8 :: .inBlock 0 :: k) env S) ∧
  (codeS I next stop k33_5 k env S = next (.code k33_6 :: .code k33_7 :: k) env S) ∧
  (codeS I next stop k33_20 k env S = next (.inRegion o33_20 [0, 1] :: k) env S) ∧
  (codeS I next stop k33_21 k env S = stop (.code .ret :: k) env S) ∧
  (codeS I next stop k33_19 k env S = next (.code k33_20 :: .code k33_21 :: k) env S) ∧
  (codeS I next stop k33_4 k env S = next (.code k33_5 :: .code k33_19 :: k) env S) ∧
  (codeS I next stop k33_2 k env S = next (.code k33_3 :: .code k33_4 :: k) env S) ∧
  (codeS I next stop k33_0 k env S = next (.code k33_1 :: .code k33_2 :: k) env S) := by
  repeat' apply And.intro
  all_goals kernel_rfl
theorem c33r (P : Program) (I : Inv) (next stop : Cont) (rest : List Nat) (k : List Item) (env : List V) (S : Mem) : (regS P I next stop o33_1 0 rest k env S = bindS next (op1 P (evalV I env) S (.box 34 (.tmp 0))) (.inRegion o33_1 rest :: k) (some 2) env) ∧
  (regS P I next stop o33_1 1 rest k env S = bindS next (op1 P (evalV I env) S (.assign (.const (.int .i64 0)))) (.inRegion o33_1 rest :: k) (some 4) env) ∧
  (regS P I next stop o33_3 0 rest k env S = bindS next (op1 P (evalV I env) S (.assign (.const (.int .i64 1)))) (.inRegion o33_3 rest :: k) (some 5) env) ∧
  (regS P I next stop o33_6 0 rest k env S = bindS next (op1 P (evalV I env) S (.assign (.const (.int .i64 0)))) (.inRegion o33_6 rest :: k) (some 6) env) ∧
  (regS P I next stop o33_11 0 rest k env S = bindS next (op1 P (evalV I env) S (.move (.tmp 6))) (.inRegion o33_11 rest :: k) (some 7) env) ∧
  (regS P I next stop o33_11 1 rest k env S = bindS next (op1 P (evalV I env) S (.fieldAddr 34 (.tmp 2) 2)) (.inRegion o33_11 rest :: k) (some 8) env) ∧
  (regS P I next stop o33_11 2 rest k env S = bindS next (op1 P (evalV I env) S (.load 32 (.tmp 8))) (.inRegion o33_11 rest :: k) (some 9) env) ∧
  (regS P I next stop o33_11 3 rest k env S = bindS next (opCall P (evalV I env) S { callee := .builtin .len, args := #[.tmp 9], argTypes := #[32] }) (.inRegion o33_11 rest :: k) (some 10) env) ∧
  (regS P I next stop o33_11 4 rest k env S = bindS next (op1 P (evalV I env) S (.binOp .lss 3 (.tmp 7) (.tmp 10) 3)) (.inRegion o33_11 rest :: k) (some 11) env) ∧
  (regS P I next stop o33_11 5 rest k env S = bindS next (op1 P (evalV I env) S (.move (.tmp 11))) (.inRegion o33_11 rest :: k) (some 12) env) ∧
  (regS P I next stop o33_11 6 rest k env S = guardS P I next stop (env.getD 12 .undef) true o33_11 rest p33_11_6 k env S) ∧
  (doOp P I next stop o33_11 rest p33_11_6 k env S = bindS next (op1 P (evalV I env) S (.move (.tmp 5))) (.inRegion o33_11 rest :: k) (some 13) env) ∧
  (regS P I next stop o33_11 7 rest k env S = guardS P I next stop (env.getD 12 .undef) true o33_11 rest p33_11_7 k env S) ∧
  (doOp P I next stop o33_11 rest p33_11_7 k env S = bindS next (op1 P (evalV I env) S (.move (.tmp 1))) (.inRegion o33_11 rest :: k) (some 14) env) ∧
  (regS P I next stop o33_11 8 rest k env S = guardS P I next stop (env.getD 12 .undef) true o33_11 rest p33_11_8 k env S) ∧
  (doOp P I next stop o33_11 rest p33_11_8 k env S = bindS next (op1 P (evalV I env) S (.binOp .leq 3 (.tmp 13) (.tmp 14) 3)) (.inRegion o33_11 rest :: k) (some 15) env) ∧
  (regS P I next stop o33_11 9 rest k env S = bindS next (op1 P (evalV I env) S (.pick (.tmp 12) (.tmp 15) (.const (.bool false)))) (.inRegion o33_11 rest :: k) (some 16) env) ∧
  (regS P I next stop o33_17 0 rest k env S = bindS next (op1 P (evalV I env) S (.move (.tmp 5))) (.inRegion o33_17 rest :: k) (some 19) env) ∧
  (regS P I next stop o33_17 1 rest k env S = bindS next (op1 P (evalV I env) S (.fieldAddr 34 (.tmp 2) 2)) (.inRegion o33_17 rest :: k) (some 20) env) ∧
  (regS P I next stop o33_17 2 rest k env S = bindS next (op1 P (evalV I env) S (.load 32 (.tmp 20))) (.inRegion o33_17 rest :: k) (some 21) env) ∧
  (regS P I next stop o33_17 3 rest k env S = bindS next (op1 P (evalV I env) S (.move (.tmp 6))) (.inRegion o33_17 rest :: k) (some 22) env) ∧
  (regS P I next stop o33_17 4 rest k env S = bindS next (op1 P (evalV I env) S (.indexAddr 32 (.tmp 21) (.tmp 22))) (.inRegion o33_17 rest :: k) (some 23) env) ∧
  (regS P I next stop o33_17 5 rest k env S = bindS next (op1 P (evalV I env) S (.load 34 (.tmp 23))) (.inRegion o33_17 rest :: k) (some 24) env) ∧
  (regS P I next stop o33_17 6 rest k env S = bindS next (op1 P (evalV I env) S (.move (.tmp 1))) (.inRegion o33_17 rest :: k) (some 25) env) ∧
  (regS P I next stop o33_17 7 rest k env S = bindS next (op1 P (evalV I env) S (.move (.tmp 5))) (.inRegion o33_17 rest :: k) (some 26) env) ∧
  (regS P I next stop o33_17 8 rest k env S = bindS next (op1 P (evalV I env) S (.binOp .sub 3 (.tmp 25) (.tmp 26) 3)) (.inRegion o33_17 rest :: k) (some 27) env) ∧
  (regS P I next stop o33_17 9 rest k env S = callS P I stop (evalV I env (.func 33)) [evalV I env (.tmp 24), evalV I env (.tmp 27)] (.inRegion o33_17 rest :: k) (some 28) env S) ∧
  (regS P I next stop o33_17 10 rest k env S = bindS next (op1 P (evalV I env) S (.binOp .add 3 (.tmp 19) (.tmp 28) 3)) (.inRegion o33_17 rest :: k) (some 29) env) ∧
  (regS P I next stop o33_17 11 rest k env S = bindS next (op1 P (evalV I env) S (.assign (.tmp 29))) (.inRegion o33_17 rest :: k) (some 5) env) ∧
  (regS P I next stop o33_18 0 rest k env S = bindS next (op1 P (evalV I env) S (.move (.tmp 6))) (.inRegion o33_18 rest :: k) (some 17) env) ∧
  (regS P I next stop o33_18 1 rest k env S = bindS next (op1 P (evalV I env) S (.binOp .add 3 (.tmp 17) (.const (.int .i64 1)) 3)) (.inRegion o33_18 rest :: k) (some 18) env) ∧
  (regS P I next stop o33_18 2 rest k env S = bindS next (op1 P (evalV I env) S (.assign (.tmp 18))) (.inRegion o33_18 rest :: k) (some 6) env) ∧
  (regS P I next stop o33_20 0 rest k env S = bindS next (op1 P (evalV I env) S (.move (.tmp 5))) (.inRegion o33_20 rest :: k) (some 30) env) ∧
  (regS P I next stop o33_20 1 rest k env S = bindS next (op1 P (evalV I env) S (.assign (.tmp 30))) (.inRegion o33_20 rest :: k) (some 4) env) := by
  repeat' apply And.intro
  all_goals kernel_rfl
theorem c33t  : (p33_11_6.dst = (some 13)) ∧
  (p33_11_7.dst = (some 14)) ∧
  (p33_11_8.dst = (some 15)) := by
  repeat' apply And.intro
  all_goals kernel_rfl
set_option linter.defProp false in
/-- All of these. -/
def c33 := And.intro @c33s ( And.intro @c33r (@c33t))
noncomputable def k57_0 : Code := bodyOf Tryd.f57
noncomputable def k57_1 : Code := lft k57_0
noncomputable def o57_1 : Array Oper := opsOf k57_1
noncomputable def k57_2 : Code := rgt k57_0
noncomputable def k57_3 : Code := lft k57_2
noncomputable def o57_3 : Array Oper := opsOf k57_3
noncomputable def k57_4 : Code := rgt k57_2
noncomputable def k57_5 : Code := lft k57_4
noncomputable def k57_6 : Code := lft k57_5
noncomputable def o57_6 : Array Oper := opsOf k57_6
noncomputable def k57_7 : Code := rgt k57_5
noncomputable def k57_8 : Code := lft k57_7
noncomputable def k57_9 : Code := lft k57_8
noncomputable def k57_10 : Code := lft k57_9
noncomputable def k57_11 : Code := lft k57_10
noncomputable def o57_11 : Array Oper := opsOf k57_11
noncomputable def p57_11_5 : Oper := opAt o57_11 5
noncomputable def p57_11_6 : Oper := opAt o57_11 6
noncomputable def p57_11_7 : Oper := opAt o57_11 7
noncomputable def k57_12 : Code := rgt k57_10
noncomputable def k57_13 : Code := lft k57_12
noncomputable def k57_14 : Code := rgt k57_12
noncomputable def k57_15 : Code := rgt k57_9
noncomputable def k57_16 : Code := lft k57_15
noncomputable def k57_17 : Code := lft k57_16
noncomputable def k57_18 : Code := lft k57_17
noncomputable def o57_18 : Array Oper := opsOf k57_18
noncomputable def k57_19 : Code := rgt k57_17
noncomputable def k57_20 : Code := lft k57_19
noncomputable def k57_21 : Code := lft k57_20
noncomputable def o57_21 : Array Oper := opsOf k57_21
noncomputable def k57_22 : Code := rgt k57_20
noncomputable def k57_23 : Code := lft k57_22
noncomputable def o57_23 : Array Oper := opsOf k57_23
noncomputable def k57_24 : Code := rgt k57_22
noncomputable def k57_25 : Code := rgt k57_19
noncomputable def o57_25 : Array Oper := opsOf k57_25
noncomputable def k57_26 : Code := rgt k57_15
noncomputable def o57_26 : Array Oper := opsOf k57_26
noncomputable def k57_27 : Code := rgt k57_4
noncomputable def k57_28 : Code := lft k57_27
noncomputable def o57_28 : Array Oper := opsOf k57_28
noncomputable def k57_29 : Code := rgt k57_27
theorem c57s (I : Inv) (next stop : Cont) (k : List Item) (env : List V) (S : Mem) : (codeS I next stop k57_1 k env S = next (.inRegion o57_1 [0] :: k) env S) ∧
  (codeS I next stop k57_3 k env S = next (.inRegion o57_3 [0] :: k) env S) ∧
  (codeS I next stop k57_6 k env S = next (.inRegion o57_6 [0] :: k) env S) ∧
  (codeS I next stop k57_11 k env S = next (.inRegion o57_11 [0, 1, 2, 3, 4, 5, 6, 7, 8] :: k) env S) ∧
  (codeS I next stop k57_13 k env S = next k env S) ∧
  (codeS I next stop k57_14 k env S = exitV next (exitTo 0 k) env S) ∧
  (codeS I next stop k57_12 k env S = condV next (evalV I env (.tmp 15)) k57_13 k57_14 k env S) ∧
  (codeS I next stop k57_10 k env S = next (.code k57_11 :: .code k57_12 :: k) env S) ∧
  (codeS I next stop k57_18 k env S = next (.inRegion o57_18 [0, 1, 2] :: k) env S) ∧
  (codeS I next stop k57_21 k env S = next (.inRegion o57_21 [0, 1, 2, 3, 4, 5, 6] :: k) env S) ∧
  (codeS I next stop k57_23 k env S = next (.inRegion o57_23 [0, 1, 2, 3, 4, 5, 6, 7, 8, 9, 10, 11] :: k) env S) ∧
  (codeS I next stop k57_24 k env S = next k env S) ∧
  (codeS I next stop k57_22 k env S = condV next (evalV I env (.tmp 26)) k57_23 k57_24 k env S) ∧
  (codeS I next stop k57_20 k env S = next (.code k57_21 :: .code k57_22 :: k) env S) ∧
  (codeS I next stop k57_25 k env S = next (.inRegion o57_25 [0, 1, 2, 3, 4, 5, 6, 7, 8, 9, 10, 11] :: k) env S) ∧
  (codeS I next stop k57_19 k env S = next (.code k57_20 :: .code k57_25 :: k) env S) ∧
  (codeS I next stop k57_17 k env S = next (.code k57_18 :: .code k57_19 :: k) env S) ∧
  (codeS I next stop k57_16 k env S = next (.code k57_17 :: .inBlock 1 :: k) env S) ∧
  (codeS I next stop k57_26 k env S = next (.inRegion o57_26 [0, 1, 2] :: k) env S) ∧
  (codeS I next stop k57_15 k env S = next (.code k57_16 :: .code k57_26 :: k) env S) ∧
  (codeS I next stop k57_9 k env S = next (.code k57_10 :: .code k57_15 :: k) env S) ∧
  (codeS I next stop k57_8 k env S = stop (.code (.loop k57_9) :: k) env S) ∧
  (codeS I next stop k57_7 k env S = next (.code k57_8 :: .inBlock 0 :: k) env S) ∧
  (codeS I next stop k57_5 k env S = next (.code k57_6 :: .code k57_7 :: k) env S) ∧
  (codeS I next stop k57_28 k env S = next (.inRegion o57_28 [0, 1] :: k) env S) ∧
  (codeS I next stop k57_29 k env S = stop (.code .ret :: k) env S) ∧
  (codeS I next stop k57_27 k env S = next (.code k57_28 :: .code k57_29 :: k) env S) ∧
  (codeS I next stop k57_4 k env S = next (.code k57_5 :: .code k57_27 :: k) env S) ∧
  (codeS I next stop k57_2 k env S = next (.code k57_3 :: .code k57_4 :: k) env S) ∧
  (codeS I next stop k57_0 k env S = next (.code k57_1 :: .code k57_2 :: k) env S) := by
  repeat' apply And.intro
  all_goals kernel_rfl
theorem c57r (P : Program) (I : Inv) (next stop : Cont) (rest : List Nat) (k : List Item) (env : List V) (S : Mem) : (regS P I next stop o57_1 0 rest k env S = bindS next (op1 P (evalV I env) S (.assign (.const (.int .i64 0)))) (.inRegion o57_1 rest :: k) (some 4) env) ∧
  (regS P I next stop o57_3 0 rest k env S = bindS next (op1 P (evalV I env) S (.assign (.const (.int .i64 0)))) (.inRegion o57_3 rest :: k) (some 5) env) ∧
  (regS P I next stop o57_6 0 rest k env S = bindS next (op1 P (evalV I env) S (.assign (.const (.int .i64 0)))) (.inRegion o57_6 rest :: k) (some 6) env) ∧
  (regS P I next stop o57_11 0 rest k env S = bindS next (op1 P (evalV I env) S (.move (.tmp 6))) (.inRegion o57_11 rest :: k) (some 7) env) ∧
  (regS P I next stop o57_11 1 rest k env S = bindS next (op1 P (evalV I env) S (.move (.tmp 0))) (.inRegion o57_11 rest :: k) (some 8) env) ∧
  (regS P I next stop o57_11 2 rest k env S = bindS next (opCall P (evalV I env) S { callee := .builtin .len, args := #[.tmp 8], argTypes := #[36] }) (.inRegion o57_11 rest :: k) (some 9) env) ∧
  (regS P I next stop o57_11 3 rest k env S = bindS next (op1 P (evalV I env) S (.binOp .lss 3 (.tmp 7) (.tmp 9) 3)) (.inRegion o57_11 rest :: k) (some 10) env) ∧
  (regS P I next stop o57_11 4 rest k env S = bindS next (op1 P (evalV I env) S (.move (.tmp 10))) (.inRegion o57_11 rest :: k) (some 11) env) ∧
  (regS P I next stop o57_11 5 rest k env S = guardS P I next stop (env.getD 11 .undef) true o57_11 rest p57_11_5 k env S) ∧
  (doOp P I next stop o57_11 rest p57_11_5 k env S = bindS next (op1 P (evalV I env) S (.move (.tmp 5))) (.inRegion o57_11 rest :: k) (some 12) env) ∧
  (regS P I next stop o57_11 6 rest k env S = guardS P I next stop (env.getD 11 .undef) true o57_11 rest p57_11_6 k env S) ∧
  (doOp P I next stop o57_11 rest p57_11_6 k env S = bindS next (op1 P (evalV I env) S (.move (.tmp 1))) (.inRegion o57_11 rest :: k) (some 13) env) ∧
  (regS P I next stop o57_11 7 rest k env S = guardS P I next stop (env.getD 11 .undef) true o57_11 rest p57_11_7 k env S) ∧
  (doOp P I next stop o57_11 rest p57_11_7 k env S = bindS next (op1 P (evalV I env) S (.binOp .leq 3 (.tmp 12) (.tmp 13) 3)) (.inRegion o57_11 rest :: k) (some 14) env) ∧
  (regS P I next stop o57_11 8 rest k env S = bindS next (op1 P (evalV I env) S (.pick (.tmp 11) (.tmp 14) (.const (.bool false)))) (.inRegion o57_11 rest :: k) (some 15) env) ∧
  (regS P I next stop o57_18 0 rest k env S = bindS next (op1 P (evalV I env) S (.move (.tmp 5))) (.inRegion o57_18 rest :: k) (some 18) env) ∧
  (regS P I next stop o57_18 1 rest k env S = bindS next (op1 P (evalV I env) S (.binOp .add 3 (.tmp 18) (.const (.int .i64 1)) 3)) (.inRegion o57_18 rest :: k) (some 19) env) ∧
  (regS P I next stop o57_18 2 rest k env S = bindS next (op1 P (evalV I env) S (.assign (.tmp 19))) (.inRegion o57_18 rest :: k) (some 5) env) ∧
  (regS P I next stop o57_21 0 rest k env S = bindS next (op1 P (evalV I env) S (.move (.tmp 0))) (.inRegion o57_21 rest :: k) (some 20) env) ∧
  (regS P I next stop o57_21 1 rest k env S = bindS next (op1 P (evalV I env) S (.move (.tmp 6))) (.inRegion o57_21 rest :: k) (some 21) env) ∧
  (regS P I next stop o57_21 2 rest k env S = bindS next (op1 P (evalV I env) S (.indexAddr 36 (.tmp 20) (.tmp 21))) (.inRegion o57_21 rest :: k) (some 22) env) ∧
  (regS P I next stop o57_21 3 rest k env S = bindS next (op1 P (evalV I env) S (.fieldAddr 38 (.tmp 22) 3)) (.inRegion o57_21 rest :: k) (some 23) env) ∧
  (regS P I next stop o57_21 4 rest k env S = bindS next (op1 P (evalV I env) S (.load 34 (.tmp 23))) (.inRegion o57_21 rest :: k) (some 24) env) ∧
  (regS P I next stop o57_21 5 rest k env S = callS P I stop (evalV I env (.func 56)) [evalV I env (.tmp 24)] (.inRegion o57_21 rest :: k) (some 25) env S) ∧
  (regS P I next stop o57_21 6 rest k env S = bindS next (op1 P (evalV I env) S (.unOp .not 4 (.tmp 25))) (.inRegion o57_21 rest :: k) (some 26) env) ∧
  (regS P I next stop o57_23 0 rest k env S = bindS next (op1 P (evalV I env) S (.move (.tmp 5))) (.inRegion o57_23 rest :: k) (some 27) env) ∧
  (regS P I next stop o57_23 1 rest k env S = bindS next (op1 P (evalV I env) S (.move (.tmp 0))) (.inRegion o57_23 rest :: k) (some 28) env) ∧
  (regS P I next stop o57_23 2 rest k env S = bindS next (op1 P (evalV I env) S (.move (.tmp 6))) (.inRegion o57_23 rest :: k) (some 29) env) ∧
  (regS P I next stop o57_23 3 rest k env S = bindS next (op1 P (evalV I env) S (.indexAddr 36 (.tmp 28) (.tmp 29))) (.inRegion o57_23 rest :: k) (some 30) env) ∧
  (regS P I next stop o57_23 4 rest k env S = bindS next (op1 P (evalV I env) S (.fieldAddr 38 (.tmp 30) 3)) (.inRegion o57_23 rest :: k) (some 31) env) ∧
  (regS P I next stop o57_23 5 rest k env S = bindS next (op1 P (evalV I env) S (.load 34 (.tmp 31))) (.inRegion o57_23 rest :: k) (some 32) env) ∧
  (regS P I next stop o57_23 6 rest k env S = bindS next (op1 P (evalV I env) S (.move (.tmp 1))) (.inRegion o57_23 rest :: k) (some 33) env) ∧
  (regS P I next stop o57_23 7 rest k env S = bindS next (op1 P (evalV I env) S (.move (.tmp 5))) (.inRegion o57_23 rest :: k) (some 34) env) ∧
  (regS P I next stop o57_23 8 rest k env S = bindS next (op1 P (evalV I env) S (.binOp .sub 3 (.tmp 33) (.tmp 34) 3)) (.inRegion o57_23 rest :: k) (some 35) env) ∧
  (regS P I next stop o57_23 9 rest k env S = callS P I stop (evalV I env (.func 33)) [evalV I env (.tmp 32), evalV I env (.tmp 35)] (.inRegion o57_23 rest :: k) (some 36) env S) ∧
  (regS P I next stop o57_23 10 rest k env S = bindS next (op1 P (evalV I env) S (.binOp .add 3 (.tmp 27) (.tmp 36) 3)) (.inRegion o57_23 rest :: k) (some 37) env) ∧
  (regS P I next stop o57_23 11 rest k env S = bindS next (op1 P (evalV I env) S (.assign (.tmp 37))) (.inRegion o57_23 rest :: k) (some 5) env) ∧
  (regS P I next stop o57_25 0 rest k env S = bindS next (op1 P (evalV I env) S (.move (.tmp 5))) (.inRegion o57_25 rest :: k) (some 38) env) ∧
  (regS P I next stop o57_25 1 rest k env S = bindS next (op1 P (evalV I env) S (.move (.tmp 0))) (.inRegion o57_25 rest :: k) (some 39) env) ∧
  (regS P I next stop o57_25 2 rest k env S = bindS next (op1 P (evalV I env) S (.move (.tmp 6))) (.inRegion o57_25 rest :: k) (some 40) env) ∧
  (regS P I next stop o57_25 3 rest k env S = bindS next (op1 P (evalV I env) S (.indexAddr 36 (.tmp 39) (.tmp 40))) (.inRegion o57_25 rest :: k) (some 41) env) ∧
  (regS P I next stop o57_25 4 rest k env S = bindS next (op1 P (evalV I env) S (.fieldAddr 38 (.tmp 41) 5)) (.inRegion o57_25 rest :: k) (some 42) env) ∧
  (regS P I next stop o57_25 5 rest k env S = bindS next (op1 P (evalV I env) S (.load 36 (.tmp 42))) (.inRegion o57_25 rest :: k) (some 43) env) ∧
  (regS P I next stop o57_25 6 rest k env S = bindS next (op1 P (evalV I env) S (.move (.tmp 1))) (.inRegion o57_25 rest :: k) (some 44) env) ∧
  (regS P I next stop o57_25 7 rest k env S = bindS next (op1 P (evalV I env) S (.move (.tmp 5))) (.inRegion o57_25 rest :: k) (some 45) env) ∧
  (regS P I next stop o57_25 8 rest k env S = bindS next (op1 P (evalV I env) S (.binOp .sub 3 (.tmp 44) (.tmp 45) 3)) (.inRegion o57_25 rest :: k) (some 46) env) ∧
  (regS P I next stop o57_25 9 rest k env S = callS P I stop (evalV I env (.func 57)) [evalV I env (.tmp 43), evalV I env (.tmp 46)] (.inRegion o57_25 rest :: k) (some 47) env S) ∧
  (regS P I next stop o57_25 10 rest k env S = bindS next (op1 P (evalV I env) S (.binOp .add 3 (.tmp 38) (.tmp 47) 3)) (.inRegion o57_25 rest :: k) (some 48) env) ∧
  (regS P I next stop o57_25 11 rest k env S = bindS next (op1 P (evalV I env) S (.assign (.tmp 48))) (.inRegion o57_25 rest :: k) (some 5) env) ∧
  (regS P I next stop o57_26 0 rest k env S = bindS next (op1 P (evalV I env) S (.move (.tmp 6))) (.inRegion o57_26 rest :: k) (some 16) env) ∧
  (regS P I next stop o57_26 1 rest k env S = bindS next (op1 P (evalV I env) S (.binOp .add 3 (.tmp 16) (.const (.int .i64 1)) 3)) (.inRegion o57_26 rest :: k) (some 17) env) ∧
  (regS P I next stop o57_26 2 rest k env S = bindS next (op1 P (evalV I env) S (.assign (.tmp 17))) (.inRegion o57_26 rest :: k) (some 6) env) ∧
  (regS P I next stop o57_28 0 rest k env S = bindS next (op1 P (evalV I env) S (.move (.tmp 5))) (.inRegion o57_28 rest :: k) (some 49) env) ∧
  (regS P I next stop o57_28 1 rest k env S = bindS next (op1 P (evalV I env) S (.assign (.tmp 49))) (.inRegion o57_28 rest :: k) (some 4) env) := by
  repeat' apply And.intro
  all_goals kernel_rfl
theorem c57t  : (p57_11_5.dst = (some 12)) ∧
  (p57_11_6.dst = (some 13)) ∧
  (p57_11_7.dst = (some 14)) := by
  repeat' apply And.intro
  all_goals kernel_rfl
set_option linter.defProp false in
/-- All of these. -/
def c57 := And.intro @c57s ( And.intro @c57r (@c57t))
noncomputable def k32_0 : Code := bodyOf Tryd.f32
noncomputable def k32_1 : Code := lft k32_0
noncomputable def o32_1 : Array Oper := opsOf k32_1
noncomputable def k32_2 : Code := rgt k32_0
noncomputable def k32_3 : Code := lft k32_2
noncomputable def o32_3 : Array Oper := opsOf k32_3
noncomputable def k32_4 : Code := rgt k32_2
noncomputable def k32_5 : Code := lft k32_4
noncomputable def k32_6 : Code := lft k32_5
noncomputable def o32_6 : Array Oper := opsOf k32_6
noncomputable def k32_7 : Code := rgt k32_5
noncomputable def k32_8 : Code := lft k32_7
noncomputable def k32_9 : Code := lft k32_8
noncomputable def k32_10 : Code := lft k32_9
noncomputable def k32_11 : Code := lft k32_10
noncomputable def o32_11 : Array Oper := opsOf k32_11
noncomputable def p32_11_5 : Oper := opAt o32_11 5
noncomputable def p32_11_6 : Oper := opAt o32_11 6
noncomputable def p32_11_7 : Oper := opAt o32_11 7
noncomputable def k32_12 : Code := rgt k32_10
noncomputable def k32_13 : Code := lft k32_12
noncomputable def k32_14 : Code := rgt k32_12
noncomputable def k32_15 : Code := rgt k32_9
noncomputable def k32_16 : Code := lft k32_15
noncomputable def k32_17 : Code := lft k32_16
noncomputable def o32_17 : Array Oper := opsOf k32_17
noncomputable def k32_18 : Code := rgt k32_15
noncomputable def o32_18 : Array Oper := opsOf k32_18
noncomputable def k32_19 : Code := rgt k32_4
noncomputable def k32_20 : Code := lft k32_19
noncomputable def o32_20 : Array Oper := opsOf k32_20
noncomputable def k32_21 : Code := rgt k32_19
theorem c32s (I : Inv) (next stop : Cont) (k : List Item) (env : List V) (S : Mem) : (codeS I next stop k32_1 k env S = next (.inRegion o32_1 [0] :: k) env S) ∧
  (codeS I next stop k32_3 k env S = next (.inRegion o32_3 [0] :: k) env S) ∧
  (codeS I next stop k32_6 k env S = next (.inRegion o32_6 [0] :: k) env S) ∧
  (codeS I next stop k32_11 k env S = next (.inRegion o32_11 [0, 1, 2, 3, 4, 5, 6, 7, 8] :: k) env S) ∧
  (codeS I next stop k32_13 k env S = next k env S) ∧
  (codeS I next stop k32_14 k env S = exitV next (exitTo 0 k) env S) ∧
  (codeS I next stop k32_12 k env S = condV next (evalV I env (.tmp 15)) k32_13 k32_14 k env S) ∧
  (codeS I next stop k32_10 k env S = next (.code k32_11 :: .code k32_12 :: k) env S) ∧
  (codeS I next stop k32_17 k env S = next (.inRegion o32_17 [0, 1, 2, 3, 4, 5, 6, 7, 8, 9, 10, 11, 12] :: k) env S) ∧
  (codeS I next stop k32_16 k env S = next (.code k32_17 :: .inBlock 1 :: k) env S) ∧
  (codeS I next stop k32_18 k env S = next (.inRegion o32_18 [0, 1, 2] :: k) env S) ∧
  (codeS I next stop k32_15 k env S = next (.code k32_16 :: .code k32_18 :: k) env S) ∧
  (codeS I next stop k32_9 k env S = next (.code k32_10 :: .code k32_15 :: k) env S) ∧
  (codeS I next stop k32_8 k env S = stop (.code (.loop k32_9) :: k) env S) ∧
  (codeS I next stop k32_7 k env S = next (.code k32_8 :: .inBlock 0 :: k) env S) ∧
  (codeS I next stop k32_5 k env S = next (.code k32_6 :: .code k32_7 :: k) env S) ∧
  (codeS I next stop k32_20 k env S = next (.inRegion o32_20 [0, 1] :: k) env S) ∧
  (codeS I next stop k32_21 k env S = stop (.code .ret :: k) env S) ∧
  (codeS I next stop k32_19 k env S = next (.code k32_20 :: .code k32_21 :: k) env S) ∧
  (codeS I next stop k32_4 k env S = next (.code k32_5 :: .code k32_19 :: k) env S) ∧
  (codeS I next stop k32_2 k env S = next (.code k32_3 :: .code k32_4 :: k) env S) ∧
  (codeS I next stop k32_0 k env S = next (.code k32_1 :: .code k32_2 :: k) env S) := by
  repeat' apply And.intro
  all_goals kernel_rfl
theorem c32r (P : Program) (I : Inv) (next stop : Cont) (rest : List Nat) (k : List Item) (env : List V) (S : Mem) : (regS P I next stop o32_1 0 rest k env S = bindS next (op1 P (evalV I env) S (.assign (.const (.int .i64 0)))) (.inRegion o32_1 rest :: k) (some 4) env) ∧
  (regS P I next stop o32_3 0 rest k env S = bindS next (op1 P (evalV I env) S (.assign (.const (.int .i64 0)))) (.inRegion o32_3 rest :: k) (some 5) env) ∧
  (regS P I next stop o32_6 0 rest k env S = bindS next (op1 P (evalV I env) S (.assign (.const (.int .i64 0)))) (.inRegion o32_6 rest :: k) (some 6) env) ∧
  (regS P I next stop o32_11 0 rest k env S = bindS next (op1 P (evalV I env) S (.move (.tmp 6))) (.inRegion o32_11 rest :: k) (some 7) env) ∧
  (regS P I next stop o32_11 1 rest k env S = bindS next (op1 P (evalV I env) S (.move (.tmp 0))) (.inRegion o32_11 rest :: k) (some 8) env) ∧
  (regS P I next stop o32_11 2 rest k env S = bindS next (opCall P (evalV I env) S { callee := .builtin .len, args := #[.tmp 8], argTypes := #[50] }) (.inRegion o32_11 rest :: k) (some 9) env) ∧
  (regS P I next stop o32_11 3 rest k env S = bindS next (op1 P (evalV I env) S (.binOp .lss 3 (.tmp 7) (.tmp 9) 3)) (.inRegion o32_11 rest :: k) (some 10) env) ∧
  (regS P I next stop o32_11 4 rest k env S = bindS next (op1 P (evalV I env) S (.move (.tmp 10))) (.inRegion o32_11 rest :: k) (some 11) env) ∧
  (regS P I next stop o32_11 5 rest k env S = guardS P I next stop (env.getD 11 .undef) true o32_11 rest p32_11_5 k env S) ∧
  (doOp P I next stop o32_11 rest p32_11_5 k env S = bindS next (op1 P (evalV I env) S (.move (.tmp 5))) (.inRegion o32_11 rest :: k) (some 12) env) ∧
  (regS P I next stop o32_11 6 rest k env S = guardS P I next stop (env.getD 11 .undef) true o32_11 rest p32_11_6 k env S) ∧
  (doOp P I next stop o32_11 rest p32_11_6 k env S = bindS next (op1 P (evalV I env) S (.move (.tmp 1))) (.inRegion o32_11 rest :: k) (some 13) env) ∧
  (regS P I next stop o32_11 7 rest k env S = guardS P I next stop (env.getD 11 .undef) true o32_11 rest p32_11_7 k env S) ∧
  (doOp P I next stop o32_11 rest p32_11_7 k env S = bindS next (op1 P (evalV I env) S (.binOp .leq 3 (.tmp 12) (.tmp 13) 3)) (.inRegion o32_11 rest :: k) (some 14) env) ∧
  (regS P I next stop o32_11 8 rest k env S = bindS next (op1 P (evalV I env) S (.pick (.tmp 11) (.tmp 14) (.const (.bool false)))) (.inRegion o32_11 rest :: k) (some 15) env) ∧
  (regS P I next stop o32_17 0 rest k env S = bindS next (op1 P (evalV I env) S (.move (.tmp 5))) (.inRegion o32_17 rest :: k) (some 18) env) ∧
  (regS P I next stop o32_17 1 rest k env S = bindS next (op1 P (evalV I env) S (.binOp .add 3 (.tmp 18) (.const (.int .i64 1)) 3)) (.inRegion o32_17 rest :: k) (some 19) env) ∧
  (regS P I next stop o32_17 2 rest k env S = bindS next (op1 P (evalV I env) S (.move (.tmp 0))) (.inRegion o32_17 rest :: k) (some 20) env) ∧
  (regS P I next stop o32_17 3 rest k env S = bindS next (op1 P (evalV I env) S (.move (.tmp 6))) (.inRegion o32_17 rest :: k) (some 21) env) ∧
  (regS P I next stop o32_17 4 rest k env S = bindS next (op1 P (evalV I env) S (.indexAddr 50 (.tmp 20) (.tmp 21))) (.inRegion o32_17 rest :: k) (some 22) env) ∧
  (regS P I next stop o32_17 5 rest k env S = bindS next (op1 P (evalV I env) S (.fieldAddr 60 (.tmp 22) 1)) (.inRegion o32_17 rest :: k) (some 23) env) ∧
  (regS P I next stop o32_17 6 rest k env S = bindS next (op1 P (evalV I env) S (.load 34 (.tmp 23))) (.inRegion o32_17 rest :: k) (some 24) env) ∧
  (regS P I next stop o32_17 7 rest k env S = bindS next (op1 P (evalV I env) S (.move (.tmp 1))) (.inRegion o32_17 rest :: k) (some 25) env) ∧
  (regS P I next stop o32_17 8 rest k env S = bindS next (op1 P (evalV I env) S (.move (.tmp 5))) (.inRegion o32_17 rest :: k) (some 26) env) ∧
  (regS P I next stop o32_17 9 rest k env S = bindS next (op1 P (evalV I env) S (.binOp .sub 3 (.tmp 25) (.tmp 26) 3)) (.inRegion o32_17 rest :: k) (some 27) env) ∧
  (regS P I next stop o32_17 10 rest k env S = callS P I stop (evalV I env (.func 33)) [evalV I env (.tmp 24), evalV I env (.tmp 27)] (.inRegion o32_17 rest :: k) (some 28) env S) ∧
  (regS P I next stop o32_17 11 rest k env S = bindS next (op1 P (evalV I env) S (.binOp .add 3 (.tmp 19) (.tmp 28) 3)) (.inRegion o32_17 rest :: k) (some 29) env) ∧
  (regS P I next stop o32_17 12 rest k env S = bindS next (op1 P (evalV I env) S (.assign (.tmp 29))) (.inRegion o32_17 rest :: k) (some 5) env) ∧
  (regS P I next stop o32_18 0 rest k env S = bindS next (op1 P (evalV I env) S (.move (.tmp 6))) (.inRegion o32_18 rest :: k) (some 16) env) ∧
  (regS P I next stop o32_18 1 rest k env S = bindS next (op1 P (evalV I env) S (.binOp .add 3 (.tmp 16) (.const (.int .i64 1)) 3)) (.inRegion o32_18 rest :: k) (some 17) env) ∧
  (regS P I next stop o32_18 2 rest k env S = bindS next (op1 P (evalV I env) S (.assign (.tmp 17))) (.inRegion o32_18 rest :: k) (some 6) env) ∧
  (regS P I next stop o32_20 0 rest k env S = bindS next (op1 P (evalV I env) S (.move (.tmp 5))) (.inRegion o32_20 rest :: k) (some 30) env) ∧
  (regS P I next stop o32_20 1 rest k env S = bindS next (op1 P (evalV I env) S (.assign (.tmp 30))) (.inRegion o32_20 rest :: k) (some 4) env) := by
  repeat' apply And.intro
  all_goals kernel_rfl
theorem c32t  : (p32_11_5.dst = (some 12)) ∧
  (p32_11_6.dst = (some 13)) ∧
  (p32_11_7.dst = (some 14)) := by
  repeat' apply And.intro
  all_goals kernel_rfl
set_option linter.defProp false in
/-- All of these. -/
def c32 := And.intro @c32s ( And.intro @c32r (@c32t))

def w64 (n : Int) : Int := IntKind.i64.wrap n
mutual
def tpW : TyT → Int → Int
  | .mk _ _ es, m => tpsW es 1 m
def tpsW : List TyT → Int → Int → Int
  | [], n, _ => n
  | e :: es, n, m => if n ≤ m then tpsW es (w64 (n + tpW e (w64 (m - n)))) m else n
end
def tyW (t : TyT) (n m : Int) : Int := if zeroS t = true then n else w64 (n + tpW t (w64 (m - n)))
mutual
def e1W : ExT → Int → Int → Int
  | .mk _ _ _ ty _ ks, n, m => w64 (tyW ty (w64 (n + 1)) m + epW ks 0 (w64 (m - tyW ty (w64 (n + 1)) m)))
def epW : List ExT → Int → Int → Int
  | [], n, _ => n
  | x :: l, n, m => if n ≤ m then epW l (e1W x n m) m else n
end
def ppW : List PaT → Int → Int → Int
  | [], n, _ => n
  | x :: l, n, m => if n ≤ m then ppW l (w64 (w64 (n + 1) + tpW x.type (w64 (m - n)))) m else n
theorem tpW_elem (t : TyT) (m : Int) : tpW t m = tpsW t.elem 1 m := by cases t; rw [tpW]; rfl
theorem e1W_kids (x : ExT) (n m : Int) : e1W x n m = w64 (tyW x.type (w64 (n + 1)) m + epW x.kids 0 (w64 (m - tyW x.type (w64 (n + 1)) m))) := by cases x; rw [e1W]; rfl

set_option maxHeartbeats 1000000 in
theorem none_ab (t : TyT) (S : Mem) : AFn Tryd.prog TabI 56 [tyV t] S (Same (.d (.bool (zeroS t))) S) := by
  refine AFn.same (v := .d (.bool (zeroS t))) ?_ rfl rfl S
  unfold tyV zeroS
  have hl : decide ((t.elem.length : Int) = 0) = decide (t.elem.length = 0) := decide_eq_decide.2 (by omega)
  cases h1 : decide (t.kind = 0)
  · refine AFn.bodyE (body := k56_0) 17 Tryd.func56 (by kernel_rfl) (by kernel_rfl) (by kernel_rfl) (Nat.le_of_ble_eq_true rfl) fun hsm => ?_
    simp only [smL, sm, exV, stV, tyV, caV, paV, suV, fuV, prV, Bool.and_eq_true, decide_eq_true_eq, and_true, true_and, List.length_map, ssD_length] at hsm
    refine ARun.go 200 ?_
    simp -implicitDefEqProofs only [awC, awN, Nat.reduceAdd, Nat.reduceSub, Nat.reduceLT, Nat.reduceLeDiff, Nat.reduceEqDiff, Int.reduceToNat, Int.reduceEq, Int.reduceLT, Int.reduceLE, Int.reduceNeg, Int.reduceAdd, Int.reduceSub, Nat.reduceBEq, awT, c56, tys, h1]
    refine ARun.ret Tryd.func56 rfl (Left.empty ?_)
    exact ⟨rfl, rfl⟩
  cases h2 : decide (t.name = [])
  · refine AFn.bodyE (body := k56_0) 17 Tryd.func56 (by kernel_rfl) (by kernel_rfl) (by kernel_rfl) (Nat.le_of_ble_eq_true rfl) fun hsm => ?_
    simp only [smL, sm, exV, stV, tyV, caV, paV, suV, fuV, prV, Bool.and_eq_true, decide_eq_true_eq, and_true, true_and, List.length_map, ssD_length] at hsm
    refine ARun.go 200 ?_
    simp -implicitDefEqProofs only [awC, awN, Nat.reduceAdd, Nat.reduceSub, Nat.reduceLT, Nat.reduceLeDiff, Nat.reduceEqDiff, Int.reduceToNat, Int.reduceEq, Int.reduceLT, Int.reduceLE, Int.reduceNeg, Int.reduceAdd, Int.reduceSub, Nat.reduceBEq, awT, c56, tys, h1, h2]
    refine ARun.ret Tryd.func56 rfl (Left.empty ?_)
    exact ⟨rfl, rfl⟩
  refine AFn.bodyE (body := k56_0) 17 Tryd.func56 (by kernel_rfl) (by kernel_rfl) (by kernel_rfl) (Nat.le_of_ble_eq_true rfl) fun hsm => ?_
  simp only [smL, sm, exV, stV, tyV, caV, paV, suV, fuV, prV, Bool.and_eq_true, decide_eq_true_eq, and_true, true_and, List.length_map, ssD_length] at hsm
  refine ARun.go 200 ?_
  simp -implicitDefEqProofs only [awC, awN, Nat.reduceAdd, Nat.reduceSub, Nat.reduceLT, Nat.reduceLeDiff, Nat.reduceEqDiff, Int.reduceToNat, Int.reduceEq, Int.reduceLT, Int.reduceLE, Int.reduceNeg, Int.reduceAdd, Int.reduceSub, Nat.reduceBEq, awT, c56, tys, h1, h2, hl]
  refine ARun.ret Tryd.func56 rfl (Left.empty ?_)
  exact ⟨rfl, rfl⟩
def PTy (t : TyT) : Prop := ∀ (m : Int) (S : Mem), AFn Tryd.prog TabI 33 [tyV t, .d (.int .i64 m)] S (Same (.d (.int .i64 (tpW t m))) S)
set_option maxHeartbeats 1000000 in
theorem ptyp_step (t : TyT) (h : ∀ x ∈ t.elem, PTy x) : PTy t := by
  intro m S
  refine AFn.same (v := .d (.int .i64 (tpW t m))) ?_ rfl rfl S
  generalize hres : tpW t m = res
  rw [tpW_elem] at hres
  unfold tyV
  refine AFn.bodyE (body := k33_0) 31 Tryd.func33 (by kernel_rfl) (by kernel_rfl) (by kernel_rfl) (Nat.le_of_ble_eq_true rfl) fun hsm => ?_
  simp only [smL, sm, exV, stV, tyV, caV, paV, suV, fuV, prV, Bool.and_eq_true, decide_eq_true_eq, and_true, true_and, List.length_map, ssD_length] at hsm
  refine ARun.go 30 ?_
  simp -implicitDefEqProofs only [awC, awN, Nat.reduceAdd, Nat.reduceSub, Nat.reduceLT, Nat.reduceLeDiff, Nat.reduceEqDiff, Int.reduceToNat, Int.reduceEq, Int.reduceLT, Int.reduceLE, Int.reduceNeg, Int.reduceAdd, Int.reduceSub, Nat.reduceBEq, awT, c33, tys]
  have hf : Fits ⟨[[.d (.int .i64 t.kind), .d (.str t.name), .d (.sl (t.elem.map tyD))]], []⟩ := fun vs hvs => by
    simp only [List.mem_cons, List.not_mem_nil, or_false] at hvs
    subst hvs
    rfl
  refine ARun.loopB (fun a : Nat × Int => (envS 31 [(1, .d (.int .i64 m)), (2, .ptr 0 0), (5, .d (.int .i64 a.2)), (6, .d (.int .i64 a.1))], ⟨[[.d (.int .i64 t.kind), .d (.str t.name), .d (.sl (t.elem.map tyD))]], []⟩)) (fun a => a.1 ≤ t.elem.length ∧ tpsW (t.elem.drop a.1) a.2 m = res) (fun a => t.elem.length - a.1) (0, 1) ⟨by omega, hres⟩ ?_ rfl ?_
  · skip
    refine Agree.env _ ?_
    simp only [agree_cons, agree_nil, eq_self, and_self, true_and, and_true, Int.natCast_add, Int.natCast_one, Int.natCast_zero, envS_get, envS_eval, lk_cons, lk_nil, Nat.reduceBEq, Nat.reduceAdd, Nat.reduceSub, cond_true, cond_false]
  rintro ⟨i, q⟩ ⟨h1, h2⟩ ih
  dsimp only at h1 h2 ih ⊢
  by_cases hlt : i < t.elem.length
  · have hw := wrap_in ((i : Int) + 1) (by omega)
    have hlt' : decide ((i : Int) < (t.elem.length : Int)) = true := decide_eq_true (by omega)
    have hg := List.getElem?_eq_getElem hlt
    have hpx := h t.elem[i] (List.getElem_mem hlt)
    rw [drop_get hlt] at h2
    obtain ⟨x, hx⟩ : ∃ x, t.elem[i] = x := ⟨_, rfl⟩
    rw [hx] at hg h2 hpx
    rw [tpsW] at h2
    unfold PTy tyV at hpx
    cases hle : decide (q ≤ m)
    · rw [if_neg (of_decide_eq_false hle)] at h2
      refine ARun.go 200 ?_
      simp -implicitDefEqProofs only [awC, awN, Nat.reduceAdd, Nat.reduceSub, Nat.reduceLT, Nat.reduceLeDiff, Nat.reduceEqDiff, Int.reduceToNat, Int.reduceEq, Int.reduceLT, Int.reduceLE, Int.reduceNeg, Int.reduceAdd, Int.reduceSub, Nat.reduceBEq, awT, c33, tys, hlt', hle]
      refine ARun.ret Tryd.func33 rfl (Left.empty ?_)
      rw [h2]
      exact ⟨rfl, rfl⟩
    · rw [if_pos (of_decide_eq_true hle)] at h2
      refine ARun.go 200 ?_
      simp -implicitDefEqProofs only [awC, awN, Nat.reduceAdd, Nat.reduceSub, Nat.reduceLT, Nat.reduceLeDiff, Nat.reduceEqDiff, Int.reduceToNat, Int.reduceEq, Int.reduceLT, Int.reduceLE, Int.reduceNeg, Int.reduceAdd, Int.reduceSub, Nat.reduceBEq, awT, c33, tys, List.getElem?_map, hg, hlt', hle, tyD_eq]
      refine callS_fn (hpx _ _) ?_
      rintro _ _ ⟨rfl, rfl⟩
      refine ARun.go 200 ?_
      simp -implicitDefEqProofs only [awC, awN, Nat.reduceAdd, Nat.reduceSub, Nat.reduceLT, Nat.reduceLeDiff, Nat.reduceEqDiff, Int.reduceToNat, Int.reduceEq, Int.reduceLT, Int.reduceLE, Int.reduceNeg, Int.reduceAdd, Int.reduceSub, Nat.reduceBEq, awT, c33, tys, hw]
      refine ih (i + 1, w64 (q + tpW x (w64 (m - q)))) ⟨hlt, h2⟩ (by dsimp only; omega) _ _ [] _ rfl ⟨Nat.zero_le _, Nat.zero_le _⟩ hf ?_
      refine AgreeF.env _ ?_
      simp only [agreeF_cons, agreeF_nil, fit, fitL, eq_self, and_self, true_and, and_true, Bool.and_true, Bool.true_and, Bool.and_self, decide_true, List.length_set, Int.natCast_add, Int.natCast_one, Int.natCast_zero, envS_get, envS_eval, lk_cons, lk_nil, Nat.reduceBEq, Nat.reduceAdd, Nat.reduceSub, cond_true, cond_false, w64]
      exact rfl
  · have hlt' : decide ((i : Int) < (t.elem.length : Int)) = false := decide_eq_false (by omega)
    rw [List.drop_eq_nil_of_le (by omega), tpsW] at h2
    refine ARun.go 200 ?_
    simp -implicitDefEqProofs only [awC, awN, Nat.reduceAdd, Nat.reduceSub, Nat.reduceLT, Nat.reduceLeDiff, Nat.reduceEqDiff, Int.reduceToNat, Int.reduceEq, Int.reduceLT, Int.reduceLE, Int.reduceNeg, Int.reduceAdd, Int.reduceSub, Nat.reduceBEq, awT, c33, tys, hlt']
    refine ARun.ret Tryd.func33 rfl (Left.empty ?_)
    rw [h2]
    exact ⟨rfl, rfl⟩
mutual
theorem ptyp_ab : ∀ t : TyT, PTy t
  | .mk k n es => ptyp_step (.mk k n es) (ptyp_all es)
theorem ptyp_all : ∀ l : List TyT, ∀ x ∈ l, PTy x
  | [], _, h => absurd h List.not_mem_nil
  | y :: l, x, h => by
    rcases List.mem_cons.1 h with e | e
    · rw [e]; exact ptyp_ab y
    · exact ptyp_all l x e
end
set_option maxHeartbeats 1000000 in
theorem pparams_ab (l : List PaT) (m : Int) (S : Mem) : AFn Tryd.prog TabI 32 [.d (.sl (l.map paD)), .d (.int .i64 m)] S (Same (.d (.int .i64 (ppW l 0 m))) S) := by
  refine AFn.same (v := .d (.int .i64 (ppW l 0 m))) ?_ rfl rfl S
  generalize hres : ppW l 0 m = res
  refine AFn.bodyE (body := k32_0) 31 Tryd.func32 (by kernel_rfl) (by kernel_rfl) (by kernel_rfl) (Nat.le_of_ble_eq_true rfl) fun hsm => ?_
  simp only [smL, sm, exV, stV, tyV, caV, paV, suV, fuV, prV, Bool.and_eq_true, decide_eq_true_eq, and_true, true_and, List.length_map, ssD_length] at hsm
  refine ARun.go 30 ?_
  simp -implicitDefEqProofs only [awC, awN, Nat.reduceAdd, Nat.reduceSub, Nat.reduceLT, Nat.reduceLeDiff, Nat.reduceEqDiff, Int.reduceToNat, Int.reduceEq, Int.reduceLT, Int.reduceLE, Int.reduceNeg, Int.reduceAdd, Int.reduceSub, Nat.reduceBEq, awT, c32, tys]
  refine ARun.loopW (fun a : Nat × Int => (envS 31 [(0, .d (.sl (l.map paD))), (1, .d (.int .i64 m)), (5, .d (.int .i64 a.2)), (6, .d (.int .i64 a.1))], ⟨[], []⟩)) (fun a => a.1 ≤ l.length ∧ ppW (l.drop a.1) a.2 m = res) (fun a => l.length - a.1) (0, 0) ⟨by omega, hres⟩ ?_ rfl ?_
  · skip
    refine Agree.env _ ?_
    simp only [agree_cons, agree_nil, eq_self, and_self, true_and, and_true, Int.natCast_add, Int.natCast_one, Int.natCast_zero, envS_get, envS_eval, lk_cons, lk_nil, Nat.reduceBEq, Nat.reduceAdd, Nat.reduceSub, cond_true, cond_false]
  rintro ⟨i, q⟩ ⟨h1, h2⟩ ih
  dsimp only at h1 h2 ih ⊢
  by_cases hlt : i < l.length
  · have hw := wrap_in ((i : Int) + 1) (by omega)
    have hlt' : decide ((i : Int) < (l.length : Int)) = true := decide_eq_true (by omega)
    have hg := List.getElem?_eq_getElem hlt
    rw [drop_get hlt] at h2
    obtain ⟨x, hx⟩ : ∃ x, l[i] = x := ⟨_, rfl⟩
    rw [hx] at hg h2
    rw [ppW] at h2
    have hpx := ptyp_ab x.type
    unfold PTy tyV at hpx
    cases hle : decide (q ≤ m)
    · rw [if_neg (of_decide_eq_false hle)] at h2
      refine ARun.go 200 ?_
      simp -implicitDefEqProofs only [awC, awN, Nat.reduceAdd, Nat.reduceSub, Nat.reduceLT, Nat.reduceLeDiff, Nat.reduceEqDiff, Int.reduceToNat, Int.reduceEq, Int.reduceLT, Int.reduceLE, Int.reduceNeg, Int.reduceAdd, Int.reduceSub, Nat.reduceBEq, awT, c32, tys, hlt', hle]
      refine ARun.ret Tryd.func32 rfl (Left.empty ?_)
      rw [h2]
      exact ⟨rfl, rfl⟩
    · rw [if_pos (of_decide_eq_true hle)] at h2
      refine ARun.go 200 ?_
      simp -implicitDefEqProofs only [awC, awN, Nat.reduceAdd, Nat.reduceSub, Nat.reduceLT, Nat.reduceLeDiff, Nat.reduceEqDiff, Int.reduceToNat, Int.reduceEq, Int.reduceLT, Int.reduceLE, Int.reduceNeg, Int.reduceAdd, Int.reduceSub, Nat.reduceBEq, awT, c32, tys, List.getElem?_map, hg, hlt', hle, paD_eq]
      refine callS_fn (hpx _ _) ?_
      rintro _ _ ⟨rfl, rfl⟩
      refine ARun.go 200 ?_
      simp -implicitDefEqProofs only [awC, awN, Nat.reduceAdd, Nat.reduceSub, Nat.reduceLT, Nat.reduceLeDiff, Nat.reduceEqDiff, Int.reduceToNat, Int.reduceEq, Int.reduceLT, Int.reduceLE, Int.reduceNeg, Int.reduceAdd, Int.reduceSub, Nat.reduceBEq, awT, c32, tys, hw]
      refine ih (i + 1, w64 (w64 (q + 1) + tpW x.type (w64 (m - q)))) ⟨hlt, h2⟩ (by dsimp only; omega) _ _ ?_ rfl
      refine Agree.env _ ?_
      simp only [agree_cons, agree_nil, eq_self, and_self, true_and, and_true, Int.natCast_add, Int.natCast_one, Int.natCast_zero, envS_get, envS_eval, lk_cons, lk_nil, Nat.reduceBEq, Nat.reduceAdd, Nat.reduceSub, cond_true, cond_false, w64]
  · have hlt' : decide ((i : Int) < (l.length : Int)) = false := decide_eq_false (by omega)
    rw [List.drop_eq_nil_of_le (by omega), ppW] at h2
    refine ARun.go 200 ?_
    simp -implicitDefEqProofs only [awC, awN, Nat.reduceAdd, Nat.reduceSub, Nat.reduceLT, Nat.reduceLeDiff, Nat.reduceEqDiff, Int.reduceToNat, Int.reduceEq, Int.reduceLT, Int.reduceLE, Int.reduceNeg, Int.reduceAdd, Int.reduceSub, Nat.reduceBEq, awT, c32, tys, hlt']
    refine ARun.ret Tryd.func32 rfl (Left.empty ?_)
    rw [h2]
    exact ⟨rfl, rfl⟩
def PEx (l : List ExT) : Prop := ∀ (m : Int) (S : Mem), AFn Tryd.prog TabI 57 [.d (.sl (l.map exD)), .d (.int .i64 m)] S (Same (.d (.int .i64 (epW l 0 m))) S)
set_option maxHeartbeats 1000000 in
theorem pexprs_step (l : List ExT) (h : ∀ x ∈ l, PEx x.kids) : PEx l := by
  intro m S
  refine AFn.same (v := .d (.int .i64 (epW l 0 m))) ?_ rfl rfl S
  generalize hres : epW l 0 m = res
  refine AFn.bodyE (body := k57_0) 50 Tryd.func57 (by kernel_rfl) (by kernel_rfl) (by kernel_rfl) (Nat.le_of_ble_eq_true rfl) fun hsm => ?_
  simp only [smL, sm, exV, stV, tyV, caV, paV, suV, fuV, prV, Bool.and_eq_true, decide_eq_true_eq, and_true, true_and, List.length_map, ssD_length] at hsm
  refine ARun.go 30 ?_
  simp -implicitDefEqProofs only [awC, awN, Nat.reduceAdd, Nat.reduceSub, Nat.reduceLT, Nat.reduceLeDiff, Nat.reduceEqDiff, Int.reduceToNat, Int.reduceEq, Int.reduceLT, Int.reduceLE, Int.reduceNeg, Int.reduceAdd, Int.reduceSub, Nat.reduceBEq, awT, c57, tys]
  refine ARun.loopW (fun a : Nat × Int => (envS 50 [(0, .d (.sl (l.map exD))), (1, .d (.int .i64 m)), (5, .d (.int .i64 a.2)), (6, .d (.int .i64 a.1))], ⟨[], []⟩)) (fun a => a.1 ≤ l.length ∧ epW (l.drop a.1) a.2 m = res) (fun a => l.length - a.1) (0, 0) ⟨by omega, hres⟩ ?_ rfl ?_
  · skip
    refine Agree.env _ ?_
    simp only [agree_cons, agree_nil, eq_self, and_self, true_and, and_true, Int.natCast_add, Int.natCast_one, Int.natCast_zero, envS_get, envS_eval, lk_cons, lk_nil, Nat.reduceBEq, Nat.reduceAdd, Nat.reduceSub, cond_true, cond_false]
  rintro ⟨i, q⟩ ⟨h1, h2⟩ ih
  dsimp only at h1 h2 ih ⊢
  by_cases hlt : i < l.length
  · have hw := wrap_in ((i : Int) + 1) (by omega)
    have hlt' : decide ((i : Int) < (l.length : Int)) = true := decide_eq_true (by omega)
    have hg := List.getElem?_eq_getElem hlt
    have hcx := h l[i] (List.getElem_mem hlt)
    rw [drop_get hlt] at h2
    obtain ⟨x, hx⟩ : ∃ x, l[i] = x := ⟨_, rfl⟩
    rw [hx] at hg h2 hcx
    rw [epW] at h2
    have hpx := ptyp_ab x.type
    unfold PTy tyV at hpx
    have hz := none_ab x.type
    unfold tyV at hz
    cases hle : decide (q ≤ m)
    · rw [if_neg (of_decide_eq_false hle)] at h2
      refine ARun.go 200 ?_
      simp -implicitDefEqProofs only [awC, awN, Nat.reduceAdd, Nat.reduceSub, Nat.reduceLT, Nat.reduceLeDiff, Nat.reduceEqDiff, Int.reduceToNat, Int.reduceEq, Int.reduceLT, Int.reduceLE, Int.reduceNeg, Int.reduceAdd, Int.reduceSub, Nat.reduceBEq, awT, c57, tys, hlt', hle]
      refine ARun.ret Tryd.func57 rfl (Left.empty ?_)
      rw [h2]
      exact ⟨rfl, rfl⟩
    · rw [if_pos (of_decide_eq_true hle), e1W_kids] at h2
      refine ARun.go 200 ?_
      simp -implicitDefEqProofs only [awC, awN, Nat.reduceAdd, Nat.reduceSub, Nat.reduceLT, Nat.reduceLeDiff, Nat.reduceEqDiff, Int.reduceToNat, Int.reduceEq, Int.reduceLT, Int.reduceLE, Int.reduceNeg, Int.reduceAdd, Int.reduceSub, Nat.reduceBEq, awT, c57, tys, List.getElem?_map, hg, hlt', hle, exD_eq]
      refine callS_fn (hz _) ?_
      rintro _ _ ⟨rfl, rfl⟩
      cases hzs : zeroS x.type
      case' false =>
        have ht : tyW x.type (w64 (q + 1)) m = w64 (w64 (q + 1) + tpW x.type (w64 (m - w64 (q + 1)))) := if_neg (by rw [hzs]; decide)
        simp only [w64] at ht
        refine ARun.go 200 ?_
        simp -implicitDefEqProofs only [awC, awN, Nat.reduceAdd, Nat.reduceSub, Nat.reduceLT, Nat.reduceLeDiff, Nat.reduceEqDiff, Int.reduceToNat, Int.reduceEq, Int.reduceLT, Int.reduceLE, Int.reduceNeg, Int.reduceAdd, Int.reduceSub, Nat.reduceBEq, awT, c57, tys, List.getElem?_map, hg, hzs, exD_eq]
        refine callS_fn (hpx _ _) ?_
        rintro _ _ ⟨rfl, rfl⟩
        refine ARun.go 200 ?_
        simp -implicitDefEqProofs only [awC, awN, Nat.reduceAdd, Nat.reduceSub, Nat.reduceLT, Nat.reduceLeDiff, Nat.reduceEqDiff, Int.reduceToNat, Int.reduceEq, Int.reduceLT, Int.reduceLE, Int.reduceNeg, Int.reduceAdd, Int.reduceSub, Nat.reduceBEq, awT, c57, tys, List.getElem?_map, hg, exD_eq]
      case' true =>
        have ht : tyW x.type (w64 (q + 1)) m = w64 (q + 1) := if_pos hzs
        simp only [w64] at ht
        refine ARun.go 200 ?_
        simp -implicitDefEqProofs only [awC, awN, Nat.reduceAdd, Nat.reduceSub, Nat.reduceLT, Nat.reduceLeDiff, Nat.reduceEqDiff, Int.reduceToNat, Int.reduceEq, Int.reduceLT, Int.reduceLE, Int.reduceNeg, Int.reduceAdd, Int.reduceSub, Nat.reduceBEq, awT, c57, tys, List.getElem?_map, hg, hzs, exD_eq]
      all_goals
        refine callS_fn (hcx _ _) ?_
        rintro _ _ ⟨rfl, rfl⟩
        refine ARun.go 200 ?_
        simp -implicitDefEqProofs only [awC, awN, Nat.reduceAdd, Nat.reduceSub, Nat.reduceLT, Nat.reduceLeDiff, Nat.reduceEqDiff, Int.reduceToNat, Int.reduceEq, Int.reduceLT, Int.reduceLE, Int.reduceNeg, Int.reduceAdd, Int.reduceSub, Nat.reduceBEq, awT, c57, tys, hw]
        refine ih (i + 1, w64 (tyW x.type (w64 (q + 1)) m + epW x.kids 0 (w64 (m - tyW x.type (w64 (q + 1)) m)))) ⟨hlt, h2⟩ (by dsimp only; omega) _ _ ?_ rfl
        refine Agree.env _ ?_
        simp only [agree_cons, agree_nil, eq_self, and_self, true_and, and_true, Int.natCast_add, Int.natCast_one, Int.natCast_zero, envS_get, envS_eval, lk_cons, lk_nil, Nat.reduceBEq, Nat.reduceAdd, Nat.reduceSub, cond_true, cond_false, w64, ht]
  · have hlt' : decide ((i : Int) < (l.length : Int)) = false := decide_eq_false (by omega)
    rw [List.drop_eq_nil_of_le (by omega), epW] at h2
    refine ARun.go 200 ?_
    simp -implicitDefEqProofs only [awC, awN, Nat.reduceAdd, Nat.reduceSub, Nat.reduceLT, Nat.reduceLeDiff, Nat.reduceEqDiff, Int.reduceToNat, Int.reduceEq, Int.reduceLT, Int.reduceLE, Int.reduceNeg, Int.reduceAdd, Int.reduceSub, Nat.reduceBEq, awT, c57, tys, hlt']
    refine ARun.ret Tryd.func57 rfl (Left.empty ?_)
    rw [h2]
    exact ⟨rfl, rfl⟩
mutual
theorem pexprs_one : ∀ t : ExT, PEx t.kids
  | .mk _ _ _ _ _ es => pexprs_step es (pexprs_all es)
theorem pexprs_all : ∀ l : List ExT, ∀ x ∈ l, PEx x.kids
  | [], _, h => absurd h List.not_mem_nil
  | y :: l, x, h => by
    rcases List.mem_cons.1 h with e | e
    · rw [e]; exact pexprs_one y
    · exact pexprs_all l x e
end
theorem pexprs_ab (l : List ExT) : PEx l := pexprs_step l (pexprs_all l)
end Go.Proofs.YtombghldgdcjcaaDoor

