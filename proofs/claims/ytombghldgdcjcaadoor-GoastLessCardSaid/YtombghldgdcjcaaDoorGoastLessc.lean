/- GoastLess (avocetlaw24) holds, as the tied card says it: a program that may be may be without any one of its functions, and of its structs, and it has fewer parts then. No conditions. Part 3 of 6 of the proof. -/
import Derived.Test.YtombghldgdcjcaaDoorGoastLessb
/- The checker: heads, places. -/
namespace Go.Proofs.YtombghldgdcjcaaDoor
open Go.RowKit Go.Av Go.Ab
set_option linter.unusedSimpArgs false
set_option maxRecDepth 100000

theorem good_of {P : Program} {I : Inv} {α : Type} {g : FuncId} {first caps : List V} {argV : α → V} {S : Mem} {f : α → Bool} : ∀ (l : List α), (∀ x ∈ l, AFn P I g (first ++ [argV x] ++ caps) S (Same (.d (.bool (f x))) S)) → Good P I g first caps argV (fun _ : Unit => S) (fun x s => (f x, s)) l ()
  | [], _ => trivial
  | x :: l, h => ⟨h x List.mem_cons_self, fun _ => good_of l fun y hy => h y (List.mem_cons_of_mem _ hy)⟩
theorem anyF_unit {α : Type} (f : α → Bool) : ∀ l : List α, (anyF (fun x (s : Unit) => (f x, s)) l ()).1 = l.any f
  | [] => rfl
  | x :: l => by
    unfold anyF
    cases h : f x
    · simp [h, anyF_unit f l]
    · simp [h]
theorem headsS_all : ∀ l : List ExT, headsS l = l.all headS
  | [] => by rw [headsS]; rfl
  | x :: l => by rw [headsS, headsS_all l]; rfl
theorem any_not {α : Type} (f : α → Bool) (l : List α) : l.any (fun x => !f x) = !l.all f := by
  induction l with
  | nil => rfl
  | cons x l ih => simp [ih, Bool.not_and]
def HeadOk (x : ExT) : Prop := ∀ (B : List (List V)) (T : List (Nat × Nat)), AFn Tryd.prog TabI 75 [exV x] ⟨B, T⟩ (Same (.d (.bool (headS x))) ⟨B, T⟩)
set_option maxHeartbeats 1000000 in
theorem head1_ab (x : ExT) (h : HeadOk x) (B : List (List V)) (T : List (Nat × Nat)) : AFn Tryd.prog TabI 78 [exV x] ⟨B, T⟩ (Same (.d (.bool (!headS x))) ⟨B, T⟩) := by
  obtain ⟨N, hn⟩ : ∃ N, B.length = N := ⟨_, rfl⟩
  have h := h (B ++ [[.d (.int .i64 x.kind), .d (.str x.text), .d (.int .u64 x.int), .d (.int .i64 x.type.kind), .d (.str x.type.name), .d (.sl (x.type.elem.map tyD)), .d (.sl (ssD x.names)), .d (.sl (x.kids.map exD))]]) T
  unfold exV at h ⊢
  refine AFn.body Tryd.func78 rfl (by kernel_rfl) ?_
  refine ARun.go 100 ?_
  simp only [Tryd.f78, awC, awO, Nat.reduceAdd, Nat.reduceSub, Nat.reduceLT, Nat.reduceLeDiff, Nat.reduceEqDiff, Int.reduceToNat, Int.reduceEq, Int.reduceLT, Int.reduceLE, Int.reduceNeg, Int.reduceAdd, Int.reduceSub, Nat.reduceBEq, awT, tys, hn]
  refine callS_fn (h) ?_
  rintro _ _ ⟨rfl, rfl⟩
  refine ARun.go 100 ?_
  simp only [awC, awO, Nat.reduceAdd, Nat.reduceSub, Nat.reduceLT, Nat.reduceLeDiff, Nat.reduceEqDiff, Int.reduceToNat, Int.reduceEq, Int.reduceLT, Int.reduceLE, Int.reduceNeg, Int.reduceAdd, Int.reduceSub, Nat.reduceBEq, awT, tys, hn]
  refine ARun.ret Tryd.func78 rfl (Left.box ?_)
  exact ⟨rfl, rfl⟩
set_option maxHeartbeats 2000000 in
theorem head_step (k : Int) (t : List UInt8) (i : Int) (ty : TyT) (ns : List (List UInt8)) (ks : List ExT) (hx : ∀ x ∈ ks, HeadOk x) : HeadOk (.mk k t i ty ns ks) := by
  intro B T
  obtain ⟨N, hn⟩ : ∃ N, B.length = N := ⟨_, rfl⟩
  have hS : headS (.mk k t i ty ns ks) = (decide (k ≠ 14) && decide (k ≠ 15) && ks.all headS) := by rw [headS, headsS_all]
  simp only [exV, ExT.kind, ExT.text, ExT.int, ExT.type, ExT.names, ExT.kids]
  refine AFn.bodyS Tryd.func75 rfl (by kernel_rfl) fun hsm => ?_
  simp only [smL, sm, exV, stV, tyV, caV, paV, suV, fuV, prV, Bool.and_eq_true, decide_eq_true_eq, and_true, true_and, List.length_map, ssD_length] at hsm
  refine ARun.go 100 ?_
  simp only [Tryd.f75, awC, awO, Nat.reduceAdd, Nat.reduceSub, Nat.reduceLT, Nat.reduceLeDiff, Nat.reduceEqDiff, Int.reduceToNat, Int.reduceEq, Int.reduceLT, Int.reduceLE, Int.reduceNeg, Int.reduceAdd, Int.reduceSub, Nat.reduceBEq, awT, tys, hn]
  obtain ⟨-, -, -, -, hl⟩ := hsm
  repeat' (first | (refine guardB_of (fun h => ?_) (fun h => ?_) <;> simp only [awC, awO, Nat.reduceAdd, Nat.reduceSub, Nat.reduceLT, Nat.reduceLeDiff, Nat.reduceEqDiff, Int.reduceToNat, Int.reduceEq, Int.reduceLT, Int.reduceLE, Int.reduceNeg, Int.reduceAdd, Int.reduceSub, Nat.reduceBEq, awT, tys, h, hn]) | (refine condS_of (fun h => ?_) (fun h => ?_) <;> simp only [awC, awO, Nat.reduceAdd, Nat.reduceSub, Nat.reduceLT, Nat.reduceLeDiff, Nat.reduceEqDiff, Int.reduceToNat, Int.reduceEq, Int.reduceLT, Int.reduceLE, Int.reduceNeg, Int.reduceAdd, Int.reduceSub, Nat.reduceBEq, awT, tys, h, hn]))
  all_goals first
    | (refine ARun.ret Tryd.func75 rfl (Left.box ?_)
       rw [hS]
       (try clear ih)
       (try simp only [decide_eq_true_eq, decide_eq_false_iff_not, Bool.not_eq_true', Bool.not_eq_false'] at *)
       simp only [wk, Same, List.getD_cons_zero, List.getD_cons_succ, envS_get, envS_eval, lk_cons, lk_nil, Nat.reduceBEq, Nat.reduceAdd, Nat.reduceSub, cond_true, cond_false]
       simp [*]
       skip)
    | (refine callS_fn (containsFunc_Expr 78 [] [] (fun _ : Unit => _) (fun x s => (!headS x, s)) (fun _ _ => ⟨rfl, rfl⟩) ks hl () (good_of ks fun x hm => head1_ab x (hx x hm) _ T)) ?_
       rintro _ _ ⟨rfl, rfl⟩
       rw [anyF_unit, any_not]
       refine ARun.go 100 ?_
       simp only [awC, awO, Nat.reduceAdd, Nat.reduceSub, Nat.reduceLT, Nat.reduceLeDiff, Nat.reduceEqDiff, Int.reduceToNat, Int.reduceEq, Int.reduceLT, Int.reduceLE, Int.reduceNeg, Int.reduceAdd, Int.reduceSub, Nat.reduceBEq, awT, tys, hn]
       refine ARun.ret Tryd.func75 rfl (Left.box ?_)
       rw [hS]
       (try clear ih)
       (try simp only [decide_eq_true_eq, decide_eq_false_iff_not, Bool.not_eq_true', Bool.not_eq_false'] at *)
       simp only [wk, Same, List.getD_cons_zero, List.getD_cons_succ, envS_get, envS_eval, lk_cons, lk_nil, Nat.reduceBEq, Nat.reduceAdd, Nat.reduceSub, cond_true, cond_false]
       simp [*]
       skip)
mutual
theorem head_ab : ∀ x : ExT, HeadOk x
  | .mk k t i ty ns ks => head_step k t i ty ns ks (head_all ks)
theorem head_all : ∀ (ks : List ExT), ∀ x ∈ ks, HeadOk x
  | [], _, h => absurd h List.not_mem_nil
  | y :: l, x, h => by
    rcases List.mem_cons.1 h with e | e
    · rw [e]; exact head_ab y
    · exact head_all l x e
end
def exB (x : ExT) : List V := [.d (.int .i64 x.kind), .d (.str x.text), .d (.int .u64 x.int), .d (.int .i64 x.type.kind), .d (.str x.type.name), .d (.sl (x.type.elem.map tyD)), .d (.sl (ssD x.names)), .d (.sl (x.kids.map exD))]
theorem placeS_mk (k : Int) (t : List UInt8) (i : Int) (ty : TyT) (ns : List (List UInt8)) (ks : List ExT) : placeS (.mk k t i ty ns ks) = match ks with | [y] => if k = 9 then placeS y else decide (k = 1) | _ => decide (k = 1) := by
  rcases ks with _ | ⟨z, _ | ⟨z2, l⟩⟩ <;> simp [placeS]
set_option maxHeartbeats 2000000 in
theorem place_ab (x : ExT) (B : List (List V)) (T : List (Nat × Nat)) : AFn Tryd.prog TabI 74 [exV x] ⟨B, T⟩ (Same (.d (.bool (placeS x))) ⟨B, T⟩) := by
  obtain ⟨N, hn⟩ : ∃ N, B.length = N := ⟨_, rfl⟩
  unfold exV
  refine AFn.body Tryd.func74 rfl (by kernel_rfl) ?_
  refine ARun.go 100 ?_
  simp only [Tryd.f74, awC, awO, Nat.reduceAdd, Nat.reduceSub, Nat.reduceLT, Nat.reduceLeDiff, Nat.reduceEqDiff, Int.reduceToNat, Int.reduceEq, Int.reduceLT, Int.reduceLE, Int.reduceNeg, Int.reduceAdd, Int.reduceSub, Nat.reduceBEq, awT, tys, hn]
  refine ARun.loopW (fun y : ExT => (envOf 19 [(1, .ptr N 0)], ⟨B ++ [exB y], T⟩)) (fun y => placeS y = placeS x) (fun y => SizeOf.sizeOf y) x rfl ?_ rfl ?_
  · simp only [envOf, List.replicate_succ, List.replicate_zero, List.foldl_cons, List.foldl_nil, List.set_cons_zero, List.set_cons_succ, EnvW, eq_self, or_true, true_or, and_self, Int.natCast_add, Int.natCast_one, Int.natCast_zero]
  rintro y hy ih
  cases y with
  | mk k t i ty ns ks =>
  have hp := placeS_mk k t i ty ns ks
  dsimp only [exB] at ih ⊢
  dsimp only [ExT.kind, ExT.text, ExT.int, ExT.type, ExT.names, ExT.kids] at ⊢
  rw [hp] at hy
  rcases ks with _ | ⟨z, _ | ⟨z2, l⟩⟩
  · dsimp only at hy
    refine ARun.go 100 ?_
    simp only [awC, awO, Nat.reduceAdd, Nat.reduceSub, Nat.reduceLT, Nat.reduceLeDiff, Nat.reduceEqDiff, Int.reduceToNat, Int.reduceEq, Int.reduceLT, Int.reduceLE, Int.reduceNeg, Int.reduceAdd, Int.reduceSub, Nat.reduceBEq, awT, tys, hn, exD_eq]
    repeat' (first | (refine guardB_of (fun h => ?_) (fun h => ?_) <;> simp only [awC, awO, Nat.reduceAdd, Nat.reduceSub, Nat.reduceLT, Nat.reduceLeDiff, Nat.reduceEqDiff, Int.reduceToNat, Int.reduceEq, Int.reduceLT, Int.reduceLE, Int.reduceNeg, Int.reduceAdd, Int.reduceSub, Nat.reduceBEq, awT, tys, h, hn, exD_eq]) | (refine condS_of (fun h => ?_) (fun h => ?_) <;> simp only [awC, awO, Nat.reduceAdd, Nat.reduceSub, Nat.reduceLT, Nat.reduceLeDiff, Nat.reduceEqDiff, Int.reduceToNat, Int.reduceEq, Int.reduceLT, Int.reduceLE, Int.reduceNeg, Int.reduceAdd, Int.reduceSub, Nat.reduceBEq, awT, tys, h, hn, exD_eq]))
    all_goals
      refine ARun.ret Tryd.func74 rfl (Left.box ?_)
      rw [← hy]
      (try clear ih)
      (try simp only [decide_eq_true_eq, decide_eq_false_iff_not, Bool.not_eq_true', Bool.not_eq_false'] at *)
      simp only [wk, Same, List.getD_cons_zero, List.getD_cons_succ, envS_get, envS_eval, lk_cons, lk_nil, Nat.reduceBEq, Nat.reduceAdd, Nat.reduceSub, cond_true, cond_false]
      simp [*]
      skip
  · dsimp only at hy
    refine ARun.go 100 ?_
    simp only [awC, awO, Nat.reduceAdd, Nat.reduceSub, Nat.reduceLT, Nat.reduceLeDiff, Nat.reduceEqDiff, Int.reduceToNat, Int.reduceEq, Int.reduceLT, Int.reduceLE, Int.reduceNeg, Int.reduceAdd, Int.reduceSub, Nat.reduceBEq, awT, tys, hn, exD_eq]
    repeat' (first | (refine guardB_of (fun h => ?_) (fun h => ?_) <;> simp only [awC, awO, Nat.reduceAdd, Nat.reduceSub, Nat.reduceLT, Nat.reduceLeDiff, Nat.reduceEqDiff, Int.reduceToNat, Int.reduceEq, Int.reduceLT, Int.reduceLE, Int.reduceNeg, Int.reduceAdd, Int.reduceSub, Nat.reduceBEq, awT, tys, h, hn, exD_eq]) | (refine condS_of (fun h => ?_) (fun h => ?_) <;> simp only [awC, awO, Nat.reduceAdd, Nat.reduceSub, Nat.reduceLT, Nat.reduceLeDiff, Nat.reduceEqDiff, Int.reduceToNat, Int.reduceEq, Int.reduceLT, Int.reduceLE, Int.reduceNeg, Int.reduceAdd, Int.reduceSub, Nat.reduceBEq, awT, tys, h, hn, exD_eq]))
    all_goals first
      | (refine ARun.ret Tryd.func74 rfl (Left.box ?_)
         rw [← hy]
         (try clear ih)
         (try simp only [decide_eq_true_eq, decide_eq_false_iff_not, Bool.not_eq_true', Bool.not_eq_false'] at *)
         simp only [wk, Same, List.getD_cons_zero, List.getD_cons_succ, envS_get, envS_eval, lk_cons, lk_nil, Nat.reduceBEq, Nat.reduceAdd, Nat.reduceSub, cond_true, cond_false]
         simp [*]
         skip)
      | (refine ih z ?_ (by simp only [ExT.mk.sizeOf_spec, List.cons.sizeOf_spec]; omega) _ _ ?_ ?_
         · rw [← hy, if_pos (of_decide_eq_true (by assumption))]
         · skip
           simp only [envOf, List.replicate_succ, List.replicate_zero, List.foldl_cons, List.foldl_nil, List.set_cons_zero, List.set_cons_succ, EnvW, eq_self, or_true, true_or, and_self, Int.natCast_add, Int.natCast_one, Int.natCast_zero]
           skip
         · rfl)
  · have hl2 : decide ((l.length : Int) + 1 + 1 = 1) = false := decide_eq_false (by omega)
    dsimp only at hy
    refine ARun.go 100 ?_
    simp only [awC, awO, Nat.reduceAdd, Nat.reduceSub, Nat.reduceLT, Nat.reduceLeDiff, Nat.reduceEqDiff, Int.reduceToNat, Int.reduceEq, Int.reduceLT, Int.reduceLE, Int.reduceNeg, Int.reduceAdd, Int.reduceSub, Nat.reduceBEq, awT, tys, hn, exD_eq, hl2]
    repeat' (first | (refine guardB_of (fun h => ?_) (fun h => ?_) <;> simp only [awC, awO, Nat.reduceAdd, Nat.reduceSub, Nat.reduceLT, Nat.reduceLeDiff, Nat.reduceEqDiff, Int.reduceToNat, Int.reduceEq, Int.reduceLT, Int.reduceLE, Int.reduceNeg, Int.reduceAdd, Int.reduceSub, Nat.reduceBEq, awT, tys, h, hn, exD_eq, hl2]) | (refine condS_of (fun h => ?_) (fun h => ?_) <;> simp only [awC, awO, Nat.reduceAdd, Nat.reduceSub, Nat.reduceLT, Nat.reduceLeDiff, Nat.reduceEqDiff, Int.reduceToNat, Int.reduceEq, Int.reduceLT, Int.reduceLE, Int.reduceNeg, Int.reduceAdd, Int.reduceSub, Nat.reduceBEq, awT, tys, h, hn, exD_eq, hl2]))
    all_goals
      refine ARun.ret Tryd.func74 rfl (Left.box ?_)
      rw [← hy]
      (try clear ih)
      (try simp only [decide_eq_true_eq, decide_eq_false_iff_not, Bool.not_eq_true', Bool.not_eq_false'] at *)
      simp only [wk, Same, List.getD_cons_zero, List.getD_cons_succ, envS_get, envS_eval, lk_cons, lk_nil, Nat.reduceBEq, Nat.reduceAdd, Nat.reduceSub, cond_true, cond_false]
      simp [*]
      skip
end Go.Proofs.YtombghldgdcjcaaDoor

/- The checker: a statement's parts. -/
namespace Go.Proofs.YtombghldgdcjcaaDoor
open Go.RowKit Go.Av Go.Ab
set_option linter.unusedSimpArgs false
set_option maxRecDepth 100000
noncomputable def k73_0 : Code := bodyOf Tryd.f73
noncomputable def k73_1 : Code := lft k73_0
noncomputable def o73_1 : Array Oper := opsOf k73_1
noncomputable def k73_2 : Code := rgt k73_0
noncomputable def k73_3 : Code := lft k73_2
noncomputable def o73_3 : Array Oper := opsOf k73_3
noncomputable def k73_4 : Code := rgt k73_2
theorem c73s (I : Inv) (next stop : Cont) (k : List Item) (env : List V) (S : Mem) : (codeS I next stop k73_1 k env S = next (.inRegion o73_1 [0, 1] :: k) env S) ∧
  (codeS I next stop k73_3 k env S = next (.inRegion o73_3 [0, 1, 2, 3] :: k) env S) ∧
  (codeS I next stop k73_4 k env S = stop (.code .ret :: k) env S) ∧
  (codeS I next stop k73_2 k env S = next (.code k73_3 :: .code k73_4 :: k) env S) ∧
  (codeS I next stop k73_0 k env S = next (.code k73_1 :: .code k73_2 :: k) env S) := by
  repeat' apply And.intro
  all_goals kernel_rfl
theorem c73r (P : Program) (I : Inv) (next stop : Cont) (rest : List Nat) (k : List Item) (env : List V) (S : Mem) : (regS P I next stop o73_1 0 rest k env S = bindS next (op1 P (evalV I env) S (.box 38 (.tmp 0))) (.inRegion o73_1 rest :: k) (some 1) env) ∧
  (regS P I next stop o73_1 1 rest k env S = bindS next (op1 P (evalV I env) S (.assign (.const (.bool false)))) (.inRegion o73_1 rest :: k) (some 2) env) ∧
  (regS P I next stop o73_3 0 rest k env S = bindS next (op1 P (evalV I env) S (.load 38 (.tmp 1))) (.inRegion o73_3 rest :: k) (some 3) env) ∧
  (regS P I next stop o73_3 1 rest k env S = callS P I stop (evalV I env (.func 74)) [evalV I env (.tmp 3)] (.inRegion o73_3 rest :: k) (some 4) env S) ∧
  (regS P I next stop o73_3 2 rest k env S = bindS next (op1 P (evalV I env) S (.unOp .not 4 (.tmp 4))) (.inRegion o73_3 rest :: k) (some 5) env) ∧
  (regS P I next stop o73_3 3 rest k env S = bindS next (op1 P (evalV I env) S (.assign (.tmp 5))) (.inRegion o73_3 rest :: k) (some 2) env) := by
  repeat' apply And.intro
  all_goals kernel_rfl
set_option linter.defProp false in
/-- All of these. -/
def c73 := And.intro @c73s (@c73r)
noncomputable def k67_0 : Code := bodyOf Tryd.f67
noncomputable def k67_1 : Code := lft k67_0
noncomputable def o67_1 : Array Oper := opsOf k67_1
noncomputable def k67_2 : Code := rgt k67_0
noncomputable def k67_3 : Code := lft k67_2
noncomputable def o67_3 : Array Oper := opsOf k67_3
noncomputable def p67_3_0 : Oper := opAt o67_3 0
noncomputable def p67_3_1 : Oper := opAt o67_3 1
noncomputable def p67_3_2 : Oper := opAt o67_3 2
noncomputable def p67_3_3 : Oper := opAt o67_3 3
noncomputable def p67_3_4 : Oper := opAt o67_3 4
noncomputable def p67_3_5 : Oper := opAt o67_3 5
noncomputable def p67_3_6 : Oper := opAt o67_3 6
noncomputable def p67_3_7 : Oper := opAt o67_3 7
noncomputable def p67_3_8 : Oper := opAt o67_3 8
noncomputable def p67_3_9 : Oper := opAt o67_3 9
noncomputable def p67_3_10 : Oper := opAt o67_3 10
noncomputable def p67_3_11 : Oper := opAt o67_3 11
noncomputable def p67_3_12 : Oper := opAt o67_3 12
noncomputable def p67_3_13 : Oper := opAt o67_3 13
noncomputable def p67_3_14 : Oper := opAt o67_3 14
noncomputable def p67_3_15 : Oper := opAt o67_3 15
noncomputable def p67_3_16 : Oper := opAt o67_3 16
noncomputable def p67_3_17 : Oper := opAt o67_3 17
noncomputable def p67_3_18 : Oper := opAt o67_3 18
noncomputable def p67_3_19 : Oper := opAt o67_3 19
noncomputable def p67_3_20 : Oper := opAt o67_3 20
noncomputable def p67_3_21 : Oper := opAt o67_3 21
noncomputable def p67_3_22 : Oper := opAt o67_3 22
noncomputable def p67_3_23 : Oper := opAt o67_3 23
noncomputable def p67_3_24 : Oper := opAt o67_3 24
noncomputable def p67_3_25 : Oper := opAt o67_3 25
noncomputable def p67_3_26 : Oper := opAt o67_3 26
noncomputable def p67_3_27 : Oper := opAt o67_3 27
noncomputable def p67_3_28 : Oper := opAt o67_3 28
noncomputable def p67_3_29 : Oper := opAt o67_3 29
noncomputable def k67_4 : Code := rgt k67_2
noncomputable def k67_5 : Code := lft k67_4
noncomputable def o67_5 : Array Oper := opsOf k67_5
noncomputable def k67_6 : Code := rgt k67_4
noncomputable def k67_7 : Code := lft k67_6
noncomputable def k67_8 : Code := lft k67_7
noncomputable def o67_8 : Array Oper := opsOf k67_8
noncomputable def k67_9 : Code := rgt k67_7
noncomputable def k67_10 : Code := lft k67_9
noncomputable def k67_11 : Code := lft k67_10
noncomputable def o67_11 : Array Oper := opsOf k67_11
noncomputable def k67_12 : Code := rgt k67_10
noncomputable def k67_13 : Code := lft k67_12
noncomputable def k67_14 : Code := lft k67_13
noncomputable def o67_14 : Array Oper := opsOf k67_14
noncomputable def k67_15 : Code := rgt k67_13
noncomputable def o67_15 : Array Oper := opsOf k67_15
noncomputable def p67_15_5 : Oper := opAt o67_15 5
noncomputable def p67_15_6 : Oper := opAt o67_15 6
noncomputable def p67_15_7 : Oper := opAt o67_15 7
noncomputable def p67_15_8 : Oper := opAt o67_15 8
noncomputable def p67_15_11 : Oper := opAt o67_15 11
noncomputable def p67_15_12 : Oper := opAt o67_15 12
noncomputable def p67_15_13 : Oper := opAt o67_15 13
noncomputable def p67_15_14 : Oper := opAt o67_15 14
noncomputable def p67_15_15 : Oper := opAt o67_15 15
noncomputable def k67_16 : Code := rgt k67_12
noncomputable def k67_17 : Code := lft k67_16
noncomputable def o67_17 : Array Oper := opsOf k67_17
noncomputable def k67_18 : Code := rgt k67_16
noncomputable def k67_19 : Code := lft k67_18
noncomputable def k67_20 : Code := lft k67_19
noncomputable def o67_20 : Array Oper := opsOf k67_20
noncomputable def k67_21 : Code := rgt k67_19
noncomputable def o67_21 : Array Oper := opsOf k67_21
noncomputable def p67_21_5 : Oper := opAt o67_21 5
noncomputable def p67_21_6 : Oper := opAt o67_21 6
noncomputable def p67_21_7 : Oper := opAt o67_21 7
noncomputable def p67_21_8 : Oper := opAt o67_21 8
noncomputable def p67_21_9 : Oper := opAt o67_21 9
noncomputable def p67_21_10 : Oper := opAt o67_21 10
noncomputable def p67_21_11 : Oper := opAt o67_21 11
noncomputable def p67_21_12 : Oper := opAt o67_21 12
noncomputable def p67_21_13 : Oper := opAt o67_21 13
noncomputable def p67_21_14 : Oper := opAt o67_21 14
noncomputable def p67_21_15 : Oper := opAt o67_21 15
noncomputable def p67_21_16 : Oper := opAt o67_21 16
noncomputable def p67_21_17 : Oper := opAt o67_21 17
noncomputable def p67_21_18 : Oper := opAt o67_21 18
noncomputable def p67_21_19 : Oper := opAt o67_21 19
noncomputable def p67_21_20 : Oper := opAt o67_21 20
noncomputable def p67_21_21 : Oper := opAt o67_21 21
noncomputable def p67_21_22 : Oper := opAt o67_21 22
noncomputable def p67_21_25 : Oper := opAt o67_21 25
noncomputable def p67_21_26 : Oper := opAt o67_21 26
noncomputable def p67_21_27 : Oper := opAt o67_21 27
noncomputable def p67_21_28 : Oper := opAt o67_21 28
noncomputable def k67_22 : Code := rgt k67_18
noncomputable def k67_23 : Code := lft k67_22
noncomputable def o67_23 : Array Oper := opsOf k67_23
noncomputable def k67_24 : Code := rgt k67_22
noncomputable def k67_25 : Code := lft k67_24
noncomputable def o67_25 : Array Oper := opsOf k67_25
noncomputable def k67_26 : Code := rgt k67_24
noncomputable def k67_27 : Code := lft k67_26
noncomputable def o67_27 : Array Oper := opsOf k67_27
noncomputable def k67_28 : Code := rgt k67_26
noncomputable def k67_29 : Code := lft k67_28
noncomputable def o67_29 : Array Oper := opsOf k67_29
noncomputable def k67_30 : Code := rgt k67_28
noncomputable def k67_31 : Code := lft k67_30
noncomputable def o67_31 : Array Oper := opsOf k67_31
noncomputable def k67_32 : Code := rgt k67_30
noncomputable def k67_33 : Code := lft k67_32
noncomputable def o67_33 : Array Oper := opsOf k67_33
noncomputable def k67_34 : Code := rgt k67_32
noncomputable def k67_35 : Code := lft k67_34
noncomputable def o67_35 : Array Oper := opsOf k67_35
noncomputable def k67_36 : Code := rgt k67_34
noncomputable def k67_37 : Code := lft k67_36
noncomputable def o67_37 : Array Oper := opsOf k67_37
noncomputable def k67_38 : Code := rgt k67_36
noncomputable def k67_39 : Code := lft k67_38
noncomputable def o67_39 : Array Oper := opsOf k67_39
noncomputable def k67_40 : Code := rgt k67_38
noncomputable def k67_41 : Code := rgt k67_6
noncomputable def k67_42 : Code := lft k67_41
noncomputable def k67_43 : Code := lft k67_42
noncomputable def o67_43 : Array Oper := opsOf k67_43
noncomputable def p67_43_4 : Oper := opAt o67_43 4
noncomputable def p67_43_5 : Oper := opAt o67_43 5
noncomputable def p67_43_6 : Oper := opAt o67_43 6
noncomputable def p67_43_9 : Oper := opAt o67_43 9
noncomputable def p67_43_10 : Oper := opAt o67_43 10
noncomputable def p67_43_11 : Oper := opAt o67_43 11
noncomputable def k67_44 : Code := rgt k67_42
noncomputable def k67_45 : Code := lft k67_44
noncomputable def o67_45 : Array Oper := opsOf k67_45
noncomputable def p67_45_2 : Oper := opAt o67_45 2
noncomputable def p67_45_3 : Oper := opAt o67_45 3
noncomputable def p67_45_4 : Oper := opAt o67_45 4
noncomputable def p67_45_5 : Oper := opAt o67_45 5
noncomputable def p67_45_6 : Oper := opAt o67_45 6
noncomputable def k67_46 : Code := rgt k67_44
noncomputable def k67_47 : Code := rgt k67_41
noncomputable def k67_48 : Code := lft k67_47
noncomputable def o67_48 : Array Oper := opsOf k67_48
noncomputable def p67_48_2 : Oper := opAt o67_48 2
noncomputable def p67_48_3 : Oper := opAt o67_48 3
noncomputable def p67_48_6 : Oper := opAt o67_48 6
noncomputable def p67_48_7 : Oper := opAt o67_48 7
noncomputable def p67_48_10 : Oper := opAt o67_48 10
noncomputable def p67_48_11 : Oper := opAt o67_48 11
noncomputable def p67_48_14 : Oper := opAt o67_48 14
noncomputable def p67_48_15 : Oper := opAt o67_48 15
noncomputable def p67_48_18 : Oper := opAt o67_48 18
noncomputable def p67_48_19 : Oper := opAt o67_48 19
noncomputable def p67_48_22 : Oper := opAt o67_48 22
noncomputable def p67_48_23 : Oper := opAt o67_48 23
noncomputable def k67_49 : Code := rgt k67_47
theorem c67s (I : Inv) (next stop : Cont) (k : List Item) (env : List V) (S : Mem) : (codeS I next stop k67_1 k env S = next (.inRegion o67_1 [0, 1] :: k) env S) ∧
  (codeS I next stop k67_3 k env S = stop (.code (.region 1 o67_3 true) :: k) env S) ∧
  (codeS I next stop k67_5 k env S = next (.inRegion o67_5 [0, 1, 2, 3, 4] :: k) env S) ∧
  (codeS I next stop k67_8 k env S = next (.inRegion o67_8 [0, 1] :: k) env S) ∧
  (codeS I next stop k67_11 k env S = next (.inRegion o67_11 [0, 1] :: k) env S) ∧
  (codeS I next stop k67_14 k env S = next (.inRegion o67_14 [0, 1] :: k) env S) ∧
  (codeS I next stop k67_15 k env S = next (.inRegion o67_15 [0, 1, 2, 3, 4, 5, 6, 7, 8, 9, 10, 11, 12, 13, 14, 15, 16, 17] :: k) env S) ∧
  (codeS I next stop k67_13 k env S = next (.code k67_14 :: .code k67_15 :: k) env S) ∧
  (codeS I next stop k67_17 k env S = next (.inRegion o67_17 [0, 1] :: k) env S) ∧
  (codeS I next stop k67_20 k env S = next (.inRegion o67_20 [0] :: k) env S) ∧
  (codeS I next stop k67_21 k env S = next (.inRegion o67_21 [0, 1, 2, 3, 4, 5, 6, 7, 8, 9, 10, 11, 12, 13, 14, 15, 16, 17, 18, 19, 20, 21, 22, 23, 24, 25, 26, 27, 28, 29, 30] :: k) env S) ∧
  (codeS I next stop k67_19 k env S = next (.code k67_20 :: .code k67_21 :: k) env S) ∧
  (codeS I next stop k67_23 k env S = next (.inRegion o67_23 [0, 1] :: k) env S) ∧
  (codeS I next stop k67_25 k env S = next (.inRegion o67_25 [0, 1] :: k) env S) ∧
  (codeS I next stop k67_27 k env S = next (.inRegion o67_27 [0, 1] :: k) env S) ∧
  (codeS I next stop k67_29 k env S = next (.inRegion o67_29 [0] :: k) env S) ∧
  (codeS I next stop k67_31 k env S = next (.inRegion o67_31 [0, 1] :: k) env S) ∧
  (codeS I next stop k67_33 k env S = next (.inRegion o67_33 [0, 1] :: k) env S) ∧
  (codeS I next stop k67_35 k env S = next (.inRegion o67_35 [0, 1] :: k) env S) ∧
  (codeS I next stop k67_37 k env S = next (.inRegion o67_37 [0, 1, 2, 3, 4] :: k) env S) ∧
  (codeS I next stop k67_39 k env S = next (.inRegion o67_39 [0] :: k) env S) ∧
  (codeS I next stop k67_40 k env S = stop (.code .ret :: k) env S) ∧
  (codeS I next stop k67_38 k env S = next (.code k67_39 :: .code k67_40 :: k) env S) ∧
  (codeS I next stop k67_36 k env S = condV next (evalV I env (.tmp 97)) k67_37 k67_38 k env S) ∧
  (codeS I next stop k67_34 k env S = next (.code k67_35 :: .code k67_36 :: k) env S) ∧
  (codeS I next stop k67_32 k env S = condV next (evalV I env (.tmp 95)) k67_33 k67_34 k env S) ∧
  (codeS I next stop k67_30 k env S = next (.code k67_31 :: .code k67_32 :: k) env S) ∧
  (codeS I next stop k67_28 k env S = condV next (evalV I env (.tmp 93)) k67_29 k67_30 k env S) ∧
  (codeS I next stop k67_26 k env S = next (.code k67_27 :: .code k67_28 :: k) env S) ∧
  (codeS I next stop k67_24 k env S = condV next (evalV I env (.tmp 91)) k67_25 k67_26 k env S) ∧
  (codeS I next stop k67_22 k env S = next (.code k67_23 :: .code k67_24 :: k) env S) ∧
  (codeS I next stop k67_18 k env S = condV next (evalV I env (.tmp 59)) k67_19 k67_22 k env S) ∧
  (codeS I next stop k67_16 k env S = next (.code k67_17 :: .code k67_18 :: k) env S) ∧
  (codeS I next stop k67_12 k env S = condV next (evalV I env (.tmp 40)) k67_13 k67_16 k env S) ∧
  (codeS I next stop k67_10 k env S = next (.code k67_11 :: .code k67_12 :: k) env S) ∧
  (codeS I next stop k67_9 k env S = next (.code k67_10 :: .inBlock 0 :: k) env S) ∧
  (codeS I next stop k67_7 k env S = next (.code k67_8 :: .code k67_9 :: k) env S) ∧
  (codeS I next stop k67_43 k env S = next (.inRegion o67_43 [0, 1, 2, 3, 4, 5, 6, 7, 8, 9, 10, 11, 12] :: k) env S) ∧
  (codeS I next stop k67_45 k env S = next (.inRegion o67_45 [0, 1, 2, 3, 4, 5, 6, 7, 8] :: k) env S) ∧
  (codeS I next stop k67_46 k env S = next k env S) ∧
  (codeS I next stop k67_44 k env S = condV next (evalV I env (.tmp 115)) k67_45 k67_46 k env S) ∧
  (codeS I next stop k67_42 k env S = next (.code k67_43 :: .code k67_44 :: k) env S) ∧
  (codeS I next stop k67_48 k env S = next (.inRegion o67_48 [0, 1, 2, 3, 4, 5, 6, 7, 8, 9, 10, 11, 12, 13, 14, 15, 16, 17, 18, 19, 20, 21, 22, 23, 24, 25] :: k) env S) ∧
  (codeS I next stop k67_49 k env S = stop (.code .ret :: k) env S) ∧
  (codeS I next stop k67_47 k env S = next (.code k67_48 :: .code k67_49 :: k) env S) ∧
  (codeS I next stop k67_41 k env S = next (.code k67_42 :: .code k67_47 :: k) env S) ∧
  (codeS I next stop k67_6 k env S = next (.code k67_7 :: .code k67_41 :: k) env S) ∧
  (codeS I next stop k67_4 k env S = next (.code k67_5 :: .code k67_6 :: k) env S) ∧
  (codeS I next stop k67_2 k env S = next (.code k67_3 :: .code k67_4 :: k) env S) ∧
  (codeS I next stop k67_0 k env S = next (.code k67_1 :: .code k67_2 :: k) env S) := by
  repeat' apply And.intro
  all_goals kernel_rfl
theorem c67r (P : Program) (I : Inv) (next stop : Cont) (rest : List Nat) (k : List Item) (env : List V) (S : Mem) : (regS P I next stop o67_1 0 rest k env S = bindS next (op1 P (evalV I env) S (.box 69 (.tmp 0))) (.inRegion o67_1 rest :: k) (some 1) env) ∧
  (regS P I next stop o67_1 1 rest k env S = bindS next (op1 P (evalV I env) S (.assign (.const (.bool false)))) (.inRegion o67_1 rest :: k) (some 2) env) ∧
  (regS P I next stop o67_5 0 rest k env S = bindS next (op1 P (evalV I env) S (.fieldAddr 69 (.tmp 1) 4)) (.inRegion o67_5 rest :: k) (some 34) env) ∧
  (regS P I next stop o67_5 1 rest k env S = bindS next (op1 P (evalV I env) S (.load 36 (.tmp 34))) (.inRegion o67_5 rest :: k) (some 35) env) ∧
  (regS P I next stop o67_5 2 rest k env S = bindS next (opCall P (evalV I env) S { callee := .builtin .len, args := #[.tmp 35], argTypes := #[36] }) (.inRegion o67_5 rest :: k) (some 36) env) ∧
  (regS P I next stop o67_5 3 rest k env S = bindS next (op1 P (evalV I env) S (.binOp .eql 3 (.tmp 36) (.const (.int .i64 1)) 3)) (.inRegion o67_5 rest :: k) (some 37) env) ∧
  (regS P I next stop o67_5 4 rest k env S = bindS next (op1 P (evalV I env) S (.assign (.tmp 37))) (.inRegion o67_5 rest :: k) (some 9) env) ∧
  (regS P I next stop o67_8 0 rest k env S = bindS next (op1 P (evalV I env) S (.fieldAddr 69 (.tmp 1) 0)) (.inRegion o67_8 rest :: k) (some 38) env) ∧
  (regS P I next stop o67_8 1 rest k env S = bindS next (op1 P (evalV I env) S (.load 3 (.tmp 38))) (.inRegion o67_8 rest :: k) (some 39) env) ∧
  (regS P I next stop o67_11 0 rest k env S = bindS next (op1 P (evalV I env) S (.binOp .eql 3 (.tmp 39) (.const (.int .i64 1)) 3)) (.inRegion o67_11 rest :: k) (some 41) env) ∧
  (regS P I next stop o67_11 1 rest k env S = bindS next (op1 P (evalV I env) S (.assign (.tmp 41))) (.inRegion o67_11 rest :: k) (some 40) env) ∧
  (regS P I next stop o67_14 0 rest k env S = bindS next (op1 P (evalV I env) S (.assign (.const (.bool false)))) (.inRegion o67_14 rest :: k) (some 3) env) ∧
  (regS P I next stop o67_14 1 rest k env S = bindS next (op1 P (evalV I env) S (.assign (.const (.bool false)))) (.inRegion o67_14 rest :: k) (some 4) env) ∧
  (regS P I next stop o67_15 0 rest k env S = bindS next (op1 P (evalV I env) S (.fieldAddr 69 (.tmp 1) 4)) (.inRegion o67_15 rest :: k) (some 42) env) ∧
  (regS P I next stop o67_15 1 rest k env S = bindS next (op1 P (evalV I env) S (.load 36 (.tmp 42))) (.inRegion o67_15 rest :: k) (some 43) env) ∧
  (regS P I next stop o67_15 2 rest k env S = bindS next (opCall P (evalV I env) S { callee := .builtin .len, args := #[.tmp 43], argTypes := #[36] }) (.inRegion o67_15 rest :: k) (some 44) env) ∧
  (regS P I next stop o67_15 3 rest k env S = bindS next (op1 P (evalV I env) S (.binOp .eql 3 (.tmp 44) (.const (.int .i64 0)) 3)) (.inRegion o67_15 rest :: k) (some 45) env) ∧
  (regS P I next stop o67_15 4 rest k env S = bindS next (op1 P (evalV I env) S (.move (.tmp 45))) (.inRegion o67_15 rest :: k) (some 46) env) ∧
  (regS P I next stop o67_15 5 rest k env S = guardS P I next stop (env.getD 46 .undef) true o67_15 rest p67_15_5 k env S) ∧
  (doOp P I next stop o67_15 rest p67_15_5 k env S = bindS next (op1 P (evalV I env) S (.fieldAddr 69 (.tmp 1) 1)) (.inRegion o67_15 rest :: k) (some 47) env) ∧
  (regS P I next stop o67_15 6 rest k env S = guardS P I next stop (env.getD 46 .undef) true o67_15 rest p67_15_6 k env S) ∧
  (doOp P I next stop o67_15 rest p67_15_6 k env S = bindS next (op1 P (evalV I env) S (.load 35 (.tmp 47))) (.inRegion o67_15 rest :: k) (some 48) env) ∧
  (regS P I next stop o67_15 7 rest k env S = guardS P I next stop (env.getD 46 .undef) true o67_15 rest p67_15_7 k env S) ∧
  (doOp P I next stop o67_15 rest p67_15_7 k env S = bindS next (opCall P (evalV I env) S { callee := .builtin .len, args := #[.tmp 48], argTypes := #[35] }) (.inRegion o67_15 rest :: k) (some 49) env) ∧
  (regS P I next stop o67_15 8 rest k env S = guardS P I next stop (env.getD 46 .undef) true o67_15 rest p67_15_8 k env S) ∧
  (doOp P I next stop o67_15 rest p67_15_8 k env S = bindS next (op1 P (evalV I env) S (.binOp .eql 3 (.tmp 49) (.const (.int .i64 1)) 3)) (.inRegion o67_15 rest :: k) (some 50) env) ∧
  (regS P I next stop o67_15 9 rest k env S = bindS next (op1 P (evalV I env) S (.pick (.tmp 46) (.tmp 50) (.const (.bool false)))) (.inRegion o67_15 rest :: k) (some 51) env) ∧
  (regS P I next stop o67_15 10 rest k env S = bindS next (op1 P (evalV I env) S (.move (.tmp 51))) (.inRegion o67_15 rest :: k) (some 52) env) ∧
  (regS P I next stop o67_15 11 rest k env S = guardS P I next stop (env.getD 52 .undef) true o67_15 rest p67_15_11 k env S) ∧
  (doOp P I next stop o67_15 rest p67_15_11 k env S = bindS next (op1 P (evalV I env) S (.fieldAddr 69 (.tmp 1) 1)) (.inRegion o67_15 rest :: k) (some 53) env) ∧
  (regS P I next stop o67_15 12 rest k env S = guardS P I next stop (env.getD 52 .undef) true o67_15 rest p67_15_12 k env S) ∧
  (doOp P I next stop o67_15 rest p67_15_12 k env S = bindS next (op1 P (evalV I env) S (.load 35 (.tmp 53))) (.inRegion o67_15 rest :: k) (some 54) env) ∧
  (regS P I next stop o67_15 13 rest k env S = guardS P I next stop (env.getD 52 .undef) true o67_15 rest p67_15_13 k env S) ∧
  (doOp P I next stop o67_15 rest p67_15_13 k env S = bindS next (op1 P (evalV I env) S (.indexAddr 35 (.tmp 54) (.const (.int .i64 0)))) (.inRegion o67_15 rest :: k) (some 55) env) ∧
  (regS P I next stop o67_15 14 rest k env S = guardS P I next stop (env.getD 52 .undef) true o67_15 rest p67_15_14 k env S) ∧
  (doOp P I next stop o67_15 rest p67_15_14 k env S = bindS next (op1 P (evalV I env) S (.load 9 (.tmp 55))) (.inRegion o67_15 rest :: k) (some 56) env) ∧
  (regS P I next stop o67_15 15 rest k env S = guardS P I next stop (env.getD 52 .undef) true o67_15 rest p67_15_15 k env S) ∧
  (doOp P I next stop o67_15 rest p67_15_15 k env S = callS P I stop (evalV I env (.func 11)) [evalV I env (.tmp 56)] (.inRegion o67_15 rest :: k) (some 57) env S) ∧
  (regS P I next stop o67_15 16 rest k env S = bindS next (op1 P (evalV I env) S (.pick (.tmp 52) (.tmp 57) (.const (.bool false)))) (.inRegion o67_15 rest :: k) (some 58) env) ∧
  (regS P I next stop o67_15 17 rest k env S = bindS next (op1 P (evalV I env) S (.assign (.tmp 58))) (.inRegion o67_15 rest :: k) (some 9) env) ∧
  (regS P I next stop o67_17 0 rest k env S = bindS next (op1 P (evalV I env) S (.binOp .eql 3 (.tmp 39) (.const (.int .i64 2)) 3)) (.inRegion o67_17 rest :: k) (some 60) env) ∧
  (regS P I next stop o67_17 1 rest k env S = bindS next (op1 P (evalV I env) S (.assign (.tmp 60))) (.inRegion o67_17 rest :: k) (some 59) env) ∧
  (regS P I next stop o67_20 0 rest k env S = bindS next (op1 P (evalV I env) S (.assign (.const (.bool false)))) (.inRegion o67_20 rest :: k) (some 5) env) ∧
  (regS P I next stop o67_21 0 rest k env S = bindS next (op1 P (evalV I env) S (.fieldAddr 69 (.tmp 1) 3)) (.inRegion o67_21 rest :: k) (some 61) env) ∧
  (regS P I next stop o67_21 1 rest k env S = bindS next (op1 P (evalV I env) S (.load 36 (.tmp 61))) (.inRegion o67_21 rest :: k) (some 62) env) ∧
  (regS P I next stop o67_21 2 rest k env S = bindS next (opCall P (evalV I env) S { callee := .builtin .len, args := #[.tmp 62], argTypes := #[36] }) (.inRegion o67_21 rest :: k) (some 63) env) ∧
  (regS P I next stop o67_21 3 rest k env S = bindS next (op1 P (evalV I env) S (.binOp .gtr 3 (.tmp 63) (.const (.int .i64 0)) 3)) (.inRegion o67_21 rest :: k) (some 64) env) ∧
  (regS P I next stop o67_21 4 rest k env S = bindS next (op1 P (evalV I env) S (.move (.tmp 64))) (.inRegion o67_21 rest :: k) (some 65) env) ∧
  (regS P I next stop o67_21 5 rest k env S = guardS P I next stop (env.getD 65 .undef) true o67_21 rest p67_21_5 k env S) ∧
  (doOp P I next stop o67_21 rest p67_21_5 k env S = bindS next (op1 P (evalV I env) S (.fieldAddr 69 (.tmp 1) 4)) (.inRegion o67_21 rest :: k) (some 66) env) ∧
  (regS P I next stop o67_21 6 rest k env S = guardS P I next stop (env.getD 65 .undef) true o67_21 rest p67_21_6 k env S) ∧
  (doOp P I next stop o67_21 rest p67_21_6 k env S = bindS next (op1 P (evalV I env) S (.load 36 (.tmp 66))) (.inRegion o67_21 rest :: k) (some 67) env) ∧
  (regS P I next stop o67_21 7 rest k env S = guardS P I next stop (env.getD 65 .undef) true o67_21 rest p67_21_7 k env S) ∧
  (doOp P I next stop o67_21 rest p67_21_7 k env S = bindS next (opCall P (evalV I env) S { callee := .builtin .len, args := #[.tmp 67], argTypes := #[36] }) (.inRegion o67_21 rest :: k) (some 68) env) ∧
  (regS P I next stop o67_21 8 rest k env S = guardS P I next stop (env.getD 65 .undef) true o67_21 rest p67_21_8 k env S) ∧
  (doOp P I next stop o67_21 rest p67_21_8 k env S = bindS next (op1 P (evalV I env) S (.fieldAddr 69 (.tmp 1) 3)) (.inRegion o67_21 rest :: k) (some 69) env) ∧
  (regS P I next stop o67_21 9 rest k env S = guardS P I next stop (env.getD 65 .undef) true o67_21 rest p67_21_9 k env S) ∧
  (doOp P I next stop o67_21 rest p67_21_9 k env S = bindS next (op1 P (evalV I env) S (.load 36 (.tmp 69))) (.inRegion o67_21 rest :: k) (some 70) env) ∧
  (regS P I next stop o67_21 10 rest k env S = guardS P I next stop (env.getD 65 .undef) true o67_21 rest p67_21_10 k env S) ∧
  (doOp P I next stop o67_21 rest p67_21_10 k env S = bindS next (opCall P (evalV I env) S { callee := .builtin .len, args := #[.tmp 70], argTypes := #[36] }) (.inRegion o67_21 rest :: k) (some 71) env) ∧
  (regS P I next stop o67_21 11 rest k env S = guardS P I next stop (env.getD 65 .undef) true o67_21 rest p67_21_11 k env S) ∧
  (doOp P I next stop o67_21 rest p67_21_11 k env S = bindS next (op1 P (evalV I env) S (.binOp .eql 3 (.tmp 68) (.tmp 71) 3)) (.inRegion o67_21 rest :: k) (some 72) env) ∧
  (regS P I next stop o67_21 12 rest k env S = guardS P I next stop (env.getD 65 .undef) true o67_21 rest p67_21_12 k env S) ∧
  (doOp P I next stop o67_21 rest p67_21_12 k env S = bindS next (op1 P (evalV I env) S (.move (.tmp 72))) (.inRegion o67_21 rest :: k) (some 73) env) ∧
  (regS P I next stop o67_21 13 rest k env S = guardS P I next stop (env.getD 73 .undef) false o67_21 rest p67_21_13 k env S) ∧
  (doOp P I next stop o67_21 rest p67_21_13 k env S = bindS next (op1 P (evalV I env) S (.move (.tmp 9))) (.inRegion o67_21 rest :: k) (some 74) env) ∧
  (regS P I next stop o67_21 14 rest k env S = guardS P I next stop (env.getD 73 .undef) false o67_21 rest p67_21_14 k env S) ∧
  (doOp P I next stop o67_21 rest p67_21_14 k env S = bindS next (op1 P (evalV I env) S (.move (.tmp 74))) (.inRegion o67_21 rest :: k) (some 75) env) ∧
  (regS P I next stop o67_21 15 rest k env S = guardS P I next stop (env.getD 75 .undef) true o67_21 rest p67_21_15 k env S) ∧
  (doOp P I next stop o67_21 rest p67_21_15 k env S = bindS next (op1 P (evalV I env) S (.fieldAddr 69 (.tmp 1) 4)) (.inRegion o67_21 rest :: k) (some 76) env) ∧
  (regS P I next stop o67_21 16 rest k env S = guardS P I next stop (env.getD 75 .undef) true o67_21 rest p67_21_16 k env S) ∧
  (doOp P I next stop o67_21 rest p67_21_16 k env S = bindS next (op1 P (evalV I env) S (.load 36 (.tmp 76))) (.inRegion o67_21 rest :: k) (some 77) env) ∧
  (regS P I next stop o67_21 17 rest k env S = guardS P I next stop (env.getD 75 .undef) true o67_21 rest p67_21_17 k env S) ∧
  (doOp P I next stop o67_21 rest p67_21_17 k env S = bindS next (op1 P (evalV I env) S (.indexAddr 36 (.tmp 77) (.const (.int .i64 0)))) (.inRegion o67_21 rest :: k) (some 78) env) ∧
  (regS P I next stop o67_21 18 rest k env S = guardS P I next stop (env.getD 75 .undef) true o67_21 rest p67_21_18 k env S) ∧
  (doOp P I next stop o67_21 rest p67_21_18 k env S = bindS next (op1 P (evalV I env) S (.fieldAddr 38 (.tmp 78) 0)) (.inRegion o67_21 rest :: k) (some 79) env) ∧
  (regS P I next stop o67_21 19 rest k env S = guardS P I next stop (env.getD 75 .undef) true o67_21 rest p67_21_19 k env S) ∧
  (doOp P I next stop o67_21 rest p67_21_19 k env S = bindS next (op1 P (evalV I env) S (.load 3 (.tmp 79))) (.inRegion o67_21 rest :: k) (some 80) env) ∧
  (regS P I next stop o67_21 20 rest k env S = guardS P I next stop (env.getD 75 .undef) true o67_21 rest p67_21_20 k env S) ∧
  (doOp P I next stop o67_21 rest p67_21_20 k env S = bindS next (op1 P (evalV I env) S (.binOp .eql 3 (.tmp 80) (.const (.int .i64 7)) 3)) (.inRegion o67_21 rest :: k) (some 81) env) ∧
  (regS P I next stop o67_21 21 rest k env S = guardS P I next stop (env.getD 73 .undef) false o67_21 rest p67_21_21 k env S) ∧
  (doOp P I next stop o67_21 rest p67_21_21 k env S = bindS next (op1 P (evalV I env) S (.pick (.tmp 75) (.tmp 81) (.const (.bool false)))) (.inRegion o67_21 rest :: k) (some 82) env) ∧
  (regS P I next stop o67_21 22 rest k env S = guardS P I next stop (env.getD 65 .undef) true o67_21 rest p67_21_22 k env S) ∧
  (doOp P I next stop o67_21 rest p67_21_22 k env S = bindS next (op1 P (evalV I env) S (.pick (.tmp 73) (.const (.bool true)) (.tmp 82))) (.inRegion o67_21 rest :: k) (some 83) env) ∧
  (regS P I next stop o67_21 23 rest k env S = bindS next (op1 P (evalV I env) S (.pick (.tmp 65) (.tmp 83) (.const (.bool false)))) (.inRegion o67_21 rest :: k) (some 84) env) ∧
  (regS P I next stop o67_21 24 rest k env S = bindS next (op1 P (evalV I env) S (.move (.tmp 84))) (.inRegion o67_21 rest :: k) (some 85) env) ∧
  (regS P I next stop o67_21 25 rest k env S = guardS P I next stop (env.getD 85 .undef) true o67_21 rest p67_21_25 k env S) ∧
  (doOp P I next stop o67_21 rest p67_21_25 k env S = bindS next (op1 P (evalV I env) S (.fieldAddr 69 (.tmp 1) 3)) (.inRegion o67_21 rest :: k) (some 86) env) ∧
  (regS P I next stop o67_21 26 rest k env S = guardS P I next stop (env.getD 85 .undef) true o67_21 rest p67_21_26 k env S) ∧
  (doOp P I next stop o67_21 rest p67_21_26 k env S = bindS next (op1 P (evalV I env) S (.load 36 (.tmp 86))) (.inRegion o67_21 rest :: k) (some 87) env) ∧
  (regS P I next stop o67_21 27 rest k env S = guardS P I next stop (env.getD 85 .undef) true o67_21 rest p67_21_27 k env S) ∧
  (doOp P I next stop o67_21 rest p67_21_27 k env S = callS P I stop (evalV I env (.func 72)) [evalV I env (.tmp 87), evalV I env (.func 73)] (.inRegion o67_21 rest :: k) (some 88) env S) ∧
  (regS P I next stop o67_21 28 rest k env S = guardS P I next stop (env.getD 85 .undef) true o67_21 rest p67_21_28 k env S) ∧
  (doOp P I next stop o67_21 rest p67_21_28 k env S = bindS next (op1 P (evalV I env) S (.unOp .not 4 (.tmp 88))) (.inRegion o67_21 rest :: k) (some 89) env) ∧
  (regS P I next stop o67_21 29 rest k env S = bindS next (op1 P (evalV I env) S (.pick (.tmp 85) (.tmp 89) (.const (.bool false)))) (.inRegion o67_21 rest :: k) (some 90) env) ∧
  (regS P I next stop o67_21 30 rest k env S = bindS next (op1 P (evalV I env) S (.assign (.tmp 90))) (.inRegion o67_21 rest :: k) (some 9) env) ∧
  (regS P I next stop o67_23 0 rest k env S = bindS next (op1 P (evalV I env) S (.binOp .eql 3 (.tmp 39) (.const (.int .i64 3)) 3)) (.inRegion o67_23 rest :: k) (some 92) env) ∧
  (regS P I next stop o67_23 1 rest k env S = bindS next (op1 P (evalV I env) S (.assign (.tmp 92))) (.inRegion o67_23 rest :: k) (some 91) env) ∧
  (regS P I next stop o67_25 0 rest k env S = bindS next (op1 P (evalV I env) S (.assign (.const (.bool false)))) (.inRegion o67_25 rest :: k) (some 6) env) ∧
  (regS P I next stop o67_25 1 rest k env S = bindS next (op1 P (evalV I env) S (.assign (.const (.bool false)))) (.inRegion o67_25 rest :: k) (some 7) env) ∧
  (regS P I next stop o67_27 0 rest k env S = bindS next (op1 P (evalV I env) S (.binOp .eql 3 (.tmp 39) (.const (.int .i64 4)) 3)) (.inRegion o67_27 rest :: k) (some 94) env) ∧
  (regS P I next stop o67_27 1 rest k env S = bindS next (op1 P (evalV I env) S (.assign (.tmp 94))) (.inRegion o67_27 rest :: k) (some 93) env) ∧
  (regS P I next stop o67_29 0 rest k env S = bindS next (op1 P (evalV I env) S (.assign (.const (.bool false)))) (.inRegion o67_29 rest :: k) (some 6) env) ∧
  (regS P I next stop o67_31 0 rest k env S = bindS next (op1 P (evalV I env) S (.binOp .eql 3 (.tmp 39) (.const (.int .i64 5)) 3)) (.inRegion o67_31 rest :: k) (some 96) env) ∧
  (regS P I next stop o67_31 1 rest k env S = bindS next (op1 P (evalV I env) S (.assign (.tmp 96))) (.inRegion o67_31 rest :: k) (some 95) env) ∧
  (regS P I next stop o67_33 0 rest k env S = bindS next (op1 P (evalV I env) S (.assign (.const (.bool false)))) (.inRegion o67_33 rest :: k) (some 7) env) ∧
  (regS P I next stop o67_33 1 rest k env S = bindS next (op1 P (evalV I env) S (.assign (.const (.bool false)))) (.inRegion o67_33 rest :: k) (some 8) env) ∧
  (regS P I next stop o67_35 0 rest k env S = bindS next (op1 P (evalV I env) S (.binOp .eql 3 (.tmp 39) (.const (.int .i64 6)) 3)) (.inRegion o67_35 rest :: k) (some 98) env) ∧
  (regS P I next stop o67_35 1 rest k env S = bindS next (op1 P (evalV I env) S (.assign (.tmp 98))) (.inRegion o67_35 rest :: k) (some 97) env) ∧
  (regS P I next stop o67_37 0 rest k env S = bindS next (op1 P (evalV I env) S (.fieldAddr 69 (.tmp 1) 4)) (.inRegion o67_37 rest :: k) (some 99) env) ∧
  (regS P I next stop o67_37 1 rest k env S = bindS next (op1 P (evalV I env) S (.load 36 (.tmp 99))) (.inRegion o67_37 rest :: k) (some 100) env) ∧
  (regS P I next stop o67_37 2 rest k env S = bindS next (opCall P (evalV I env) S { callee := .builtin .len, args := #[.tmp 100], argTypes := #[36] }) (.inRegion o67_37 rest :: k) (some 101) env) ∧
  (regS P I next stop o67_37 3 rest k env S = bindS next (op1 P (evalV I env) S (.binOp .gtr 3 (.tmp 101) (.const (.int .i64 0)) 3)) (.inRegion o67_37 rest :: k) (some 102) env) ∧
  (regS P I next stop o67_37 4 rest k env S = bindS next (op1 P (evalV I env) S (.assign (.tmp 102))) (.inRegion o67_37 rest :: k) (some 9) env) ∧
  (regS P I next stop o67_39 0 rest k env S = bindS next (op1 P (evalV I env) S (.assign (.const (.bool false)))) (.inRegion o67_39 rest :: k) (some 2) env) ∧
  (regS P I next stop o67_43 0 rest k env S = bindS next (op1 P (evalV I env) S (.fieldAddr 69 (.tmp 1) 0)) (.inRegion o67_43 rest :: k) (some 103) env) ∧
  (regS P I next stop o67_43 1 rest k env S = bindS next (op1 P (evalV I env) S (.load 3 (.tmp 103))) (.inRegion o67_43 rest :: k) (some 104) env) ∧
  (regS P I next stop o67_43 2 rest k env S = bindS next (op1 P (evalV I env) S (.binOp .eql 3 (.tmp 104) (.const (.int .i64 3)) 3)) (.inRegion o67_43 rest :: k) (some 105) env) ∧
  (regS P I next stop o67_43 3 rest k env S = bindS next (op1 P (evalV I env) S (.move (.tmp 105))) (.inRegion o67_43 rest :: k) (some 106) env) ∧
  (regS P I next stop o67_43 4 rest k env S = guardS P I next stop (env.getD 106 .undef) false o67_43 rest p67_43_4 k env S) ∧
  (doOp P I next stop o67_43 rest p67_43_4 k env S = bindS next (op1 P (evalV I env) S (.fieldAddr 69 (.tmp 1) 0)) (.inRegion o67_43 rest :: k) (some 107) env) ∧
  (regS P I next stop o67_43 5 rest k env S = guardS P I next stop (env.getD 106 .undef) false o67_43 rest p67_43_5 k env S) ∧
  (doOp P I next stop o67_43 rest p67_43_5 k env S = bindS next (op1 P (evalV I env) S (.load 3 (.tmp 107))) (.inRegion o67_43 rest :: k) (some 108) env) ∧
  (regS P I next stop o67_43 6 rest k env S = guardS P I next stop (env.getD 106 .undef) false o67_43 rest p67_43_6 k env S) ∧
  (doOp P I next stop o67_43 rest p67_43_6 k env S = bindS next (op1 P (evalV I env) S (.binOp .eql 3 (.tmp 108) (.const (.int .i64 4)) 3)) (.inRegion o67_43 rest :: k) (some 109) env) ∧
  (regS P I next stop o67_43 7 rest k env S = bindS next (op1 P (evalV I env) S (.pick (.tmp 106) (.const (.bool true)) (.tmp 109))) (.inRegion o67_43 rest :: k) (some 110) env) ∧
  (regS P I next stop o67_43 8 rest k env S = bindS next (op1 P (evalV I env) S (.move (.tmp 110))) (.inRegion o67_43 rest :: k) (some 111) env) ∧
  (regS P I next stop o67_43 9 rest k env S = guardS P I next stop (env.getD 111 .undef) false o67_43 rest p67_43_9 k env S) ∧
  (doOp P I next stop o67_43 rest p67_43_9 k env S = bindS next (op1 P (evalV I env) S (.fieldAddr 69 (.tmp 1) 0)) (.inRegion o67_43 rest :: k) (some 112) env) ∧
  (regS P I next stop o67_43 10 rest k env S = guardS P I next stop (env.getD 111 .undef) false o67_43 rest p67_43_10 k env S) ∧
  (doOp P I next stop o67_43 rest p67_43_10 k env S = bindS next (op1 P (evalV I env) S (.load 3 (.tmp 112))) (.inRegion o67_43 rest :: k) (some 113) env) ∧
  (regS P I next stop o67_43 11 rest k env S = guardS P I next stop (env.getD 111 .undef) false o67_43 rest p67_43_11 k env S) ∧
  (doOp P I next stop o67_43 rest p67_43_11 k env S = bindS next (op1 P (evalV I env) S (.binOp .eql 3 (.tmp 113) (.const (.int .i64 5)) 3)) (.inRegion o67_43 rest :: k) (some 114) env) ∧
  (regS P I next stop o67_43 12 rest k env S = bindS next (op1 P (evalV I env) S (.pick (.tmp 111) (.const (.bool true)) (.tmp 114))) (.inRegion o67_43 rest :: k) (some 115) env) ∧
  (regS P I next stop o67_45 0 rest k env S = bindS next (op1 P (evalV I env) S (.move (.tmp 9))) (.inRegion o67_45 rest :: k) (some 116) env) ∧
  (regS P I next stop o67_45 1 rest k env S = bindS next (op1 P (evalV I env) S (.move (.tmp 116))) (.inRegion o67_45 rest :: k) (some 117) env) ∧
  (regS P I next stop o67_45 2 rest k env S = guardS P I next stop (env.getD 117 .undef) true o67_45 rest p67_45_2 k env S) ∧
  (doOp P I next stop o67_45 rest p67_45_2 k env S = bindS next (op1 P (evalV I env) S (.fieldAddr 69 (.tmp 1) 4)) (.inRegion o67_45 rest :: k) (some 118) env) ∧
  (regS P I next stop o67_45 3 rest k env S = guardS P I next stop (env.getD 117 .undef) true o67_45 rest p67_45_3 k env S) ∧
  (doOp P I next stop o67_45 rest p67_45_3 k env S = bindS next (op1 P (evalV I env) S (.load 36 (.tmp 118))) (.inRegion o67_45 rest :: k) (some 119) env) ∧
  (regS P I next stop o67_45 4 rest k env S = guardS P I next stop (env.getD 117 .undef) true o67_45 rest p67_45_4 k env S) ∧
  (doOp P I next stop o67_45 rest p67_45_4 k env S = bindS next (op1 P (evalV I env) S (.indexAddr 36 (.tmp 119) (.const (.int .i64 0)))) (.inRegion o67_45 rest :: k) (some 120) env) ∧
  (regS P I next stop o67_45 5 rest k env S = guardS P I next stop (env.getD 117 .undef) true o67_45 rest p67_45_5 k env S) ∧
  (doOp P I next stop o67_45 rest p67_45_5 k env S = bindS next (op1 P (evalV I env) S (.load 38 (.tmp 120))) (.inRegion o67_45 rest :: k) (some 121) env) ∧
  (regS P I next stop o67_45 6 rest k env S = guardS P I next stop (env.getD 117 .undef) true o67_45 rest p67_45_6 k env S) ∧
  (doOp P I next stop o67_45 rest p67_45_6 k env S = callS P I stop (evalV I env (.func 75)) [evalV I env (.tmp 121)] (.inRegion o67_45 rest :: k) (some 122) env S) ∧
  (regS P I next stop o67_45 7 rest k env S = bindS next (op1 P (evalV I env) S (.pick (.tmp 117) (.tmp 122) (.const (.bool false)))) (.inRegion o67_45 rest :: k) (some 123) env) ∧
  (regS P I next stop o67_45 8 rest k env S = bindS next (op1 P (evalV I env) S (.assign (.tmp 123))) (.inRegion o67_45 rest :: k) (some 9) env) ∧
  (regS P I next stop o67_48 0 rest k env S = bindS next (op1 P (evalV I env) S (.move (.tmp 9))) (.inRegion o67_48 rest :: k) (some 124) env) ∧
  (regS P I next stop o67_48 1 rest k env S = bindS next (op1 P (evalV I env) S (.move (.tmp 124))) (.inRegion o67_48 rest :: k) (some 125) env) ∧
  (regS P I next stop o67_48 2 rest k env S = guardS P I next stop (env.getD 125 .undef) true o67_48 rest p67_48_2 k env S) ∧
  (doOp P I next stop o67_48 rest p67_48_2 k env S = bindS next (op1 P (evalV I env) S (.move (.tmp 3))) (.inRegion o67_48 rest :: k) (some 126) env) ∧
  (regS P I next stop o67_48 3 rest k env S = guardS P I next stop (env.getD 125 .undef) true o67_48 rest p67_48_3 k env S) ∧
  (doOp P I next stop o67_48 rest p67_48_3 k env S = bindS next (op1 P (evalV I env) S (.unOp .not 4 (.tmp 126))) (.inRegion o67_48 rest :: k) (some 127) env) ∧
  (regS P I next stop o67_48 4 rest k env S = bindS next (op1 P (evalV I env) S (.pick (.tmp 125) (.tmp 127) (.const (.bool false)))) (.inRegion o67_48 rest :: k) (some 128) env) ∧
  (regS P I next stop o67_48 5 rest k env S = bindS next (op1 P (evalV I env) S (.move (.tmp 128))) (.inRegion o67_48 rest :: k) (some 129) env) ∧
  (regS P I next stop o67_48 6 rest k env S = guardS P I next stop (env.getD 129 .undef) true o67_48 rest p67_48_6 k env S) ∧
  (doOp P I next stop o67_48 rest p67_48_6 k env S = bindS next (op1 P (evalV I env) S (.move (.tmp 4))) (.inRegion o67_48 rest :: k) (some 130) env) ∧
  (regS P I next stop o67_48 7 rest k env S = guardS P I next stop (env.getD 129 .undef) true o67_48 rest p67_48_7 k env S) ∧
  (doOp P I next stop o67_48 rest p67_48_7 k env S = bindS next (op1 P (evalV I env) S (.unOp .not 4 (.tmp 130))) (.inRegion o67_48 rest :: k) (some 131) env) ∧
  (regS P I next stop o67_48 8 rest k env S = bindS next (op1 P (evalV I env) S (.pick (.tmp 129) (.tmp 131) (.const (.bool false)))) (.inRegion o67_48 rest :: k) (some 132) env) ∧
  (regS P I next stop o67_48 9 rest k env S = bindS next (op1 P (evalV I env) S (.move (.tmp 132))) (.inRegion o67_48 rest :: k) (some 133) env) ∧
  (regS P I next stop o67_48 10 rest k env S = guardS P I next stop (env.getD 133 .undef) true o67_48 rest p67_48_10 k env S) ∧
  (doOp P I next stop o67_48 rest p67_48_10 k env S = bindS next (op1 P (evalV I env) S (.move (.tmp 5))) (.inRegion o67_48 rest :: k) (some 134) env) ∧
  (regS P I next stop o67_48 11 rest k env S = guardS P I next stop (env.getD 133 .undef) true o67_48 rest p67_48_11 k env S) ∧
  (doOp P I next stop o67_48 rest p67_48_11 k env S = bindS next (op1 P (evalV I env) S (.unOp .not 4 (.tmp 134))) (.inRegion o67_48 rest :: k) (some 135) env) ∧
  (regS P I next stop o67_48 12 rest k env S = bindS next (op1 P (evalV I env) S (.pick (.tmp 133) (.tmp 135) (.const (.bool false)))) (.inRegion o67_48 rest :: k) (some 136) env) ∧
  (regS P I next stop o67_48 13 rest k env S = bindS next (op1 P (evalV I env) S (.move (.tmp 136))) (.inRegion o67_48 rest :: k) (some 137) env) ∧
  (regS P I next stop o67_48 14 rest k env S = guardS P I next stop (env.getD 137 .undef) true o67_48 rest p67_48_14 k env S) ∧
  (doOp P I next stop o67_48 rest p67_48_14 k env S = bindS next (op1 P (evalV I env) S (.move (.tmp 6))) (.inRegion o67_48 rest :: k) (some 138) env) ∧
  (regS P I next stop o67_48 15 rest k env S = guardS P I next stop (env.getD 137 .undef) true o67_48 rest p67_48_15 k env S) ∧
  (doOp P I next stop o67_48 rest p67_48_15 k env S = bindS next (op1 P (evalV I env) S (.unOp .not 4 (.tmp 138))) (.inRegion o67_48 rest :: k) (some 139) env) ∧
  (regS P I next stop o67_48 16 rest k env S = bindS next (op1 P (evalV I env) S (.pick (.tmp 137) (.tmp 139) (.const (.bool false)))) (.inRegion o67_48 rest :: k) (some 140) env) ∧
  (regS P I next stop o67_48 17 rest k env S = bindS next (op1 P (evalV I env) S (.move (.tmp 140))) (.inRegion o67_48 rest :: k) (some 141) env) ∧
  (regS P I next stop o67_48 18 rest k env S = guardS P I next stop (env.getD 141 .undef) true o67_48 rest p67_48_18 k env S) ∧
  (doOp P I next stop o67_48 rest p67_48_18 k env S = bindS next (op1 P (evalV I env) S (.move (.tmp 7))) (.inRegion o67_48 rest :: k) (some 142) env) ∧
  (regS P I next stop o67_48 19 rest k env S = guardS P I next stop (env.getD 141 .undef) true o67_48 rest p67_48_19 k env S) ∧
  (doOp P I next stop o67_48 rest p67_48_19 k env S = bindS next (op1 P (evalV I env) S (.unOp .not 4 (.tmp 142))) (.inRegion o67_48 rest :: k) (some 143) env) ∧
  (regS P I next stop o67_48 20 rest k env S = bindS next (op1 P (evalV I env) S (.pick (.tmp 141) (.tmp 143) (.const (.bool false)))) (.inRegion o67_48 rest :: k) (some 144) env) ∧
  (regS P I next stop o67_48 21 rest k env S = bindS next (op1 P (evalV I env) S (.move (.tmp 144))) (.inRegion o67_48 rest :: k) (some 145) env) ∧
  (regS P I next stop o67_48 22 rest k env S = guardS P I next stop (env.getD 145 .undef) true o67_48 rest p67_48_22 k env S) ∧
  (doOp P I next stop o67_48 rest p67_48_22 k env S = bindS next (op1 P (evalV I env) S (.move (.tmp 8))) (.inRegion o67_48 rest :: k) (some 146) env) ∧
  (regS P I next stop o67_48 23 rest k env S = guardS P I next stop (env.getD 145 .undef) true o67_48 rest p67_48_23 k env S) ∧
  (doOp P I next stop o67_48 rest p67_48_23 k env S = bindS next (op1 P (evalV I env) S (.unOp .not 4 (.tmp 146))) (.inRegion o67_48 rest :: k) (some 147) env) ∧
  (regS P I next stop o67_48 24 rest k env S = bindS next (op1 P (evalV I env) S (.pick (.tmp 145) (.tmp 147) (.const (.bool false)))) (.inRegion o67_48 rest :: k) (some 148) env) ∧
  (regS P I next stop o67_48 25 rest k env S = bindS next (op1 P (evalV I env) S (.assign (.tmp 148))) (.inRegion o67_48 rest :: k) (some 2) env) := by
  repeat' apply And.intro
  all_goals kernel_rfl
theorem c67q (P : Program) (I : Inv) (nq : LCont) (S : Mem) (l : List Oper) (env : List V) : (stepQ P I o67_3 nq S p67_3_0 l env = bindQ nq S (op1 P (evalV I env) S (.fieldAddr 69 (.tmp 1) 1)) l (some 10) env) ∧
  (stepQ P I o67_3 nq S p67_3_1 l env = bindQ nq S (op1 P (evalV I env) S (.load 35 (.tmp 10))) l (some 11) env) ∧
  (stepQ P I o67_3 nq S p67_3_2 l env = bindQ nq S (opCall P (evalV I env) S { callee := .builtin .len, args := #[.tmp 11], argTypes := #[35] }) l (some 12) env) ∧
  (stepQ P I o67_3 nq S p67_3_3 l env = bindQ nq S (op1 P (evalV I env) S (.binOp .gtr 3 (.tmp 12) (.const (.int .i64 0)) 3)) l (some 13) env) ∧
  (stepQ P I o67_3 nq S p67_3_4 l env = bindQ nq S (op1 P (evalV I env) S (.fieldAddr 69 (.tmp 1) 2)) l (some 14) env) ∧
  (stepQ P I o67_3 nq S p67_3_5 l env = bindQ nq S (op1 P (evalV I env) S (.load 34 (.tmp 14))) l (some 15) env) ∧
  (stepQ P I o67_3 nq S p67_3_6 l env = callQ P I nq S { callee := .value (.func 41), args := #[.tmp 15], argTypes := #[34] } (evalV I env (.func 41)) [evalV I env (.tmp 15)] l (some 16) env) ∧
  (stepQ P I o67_3 nq S p67_3_7 l env = bindQ nq S (op1 P (evalV I env) S (.unOp .not 4 (.tmp 16))) l (some 17) env) ∧
  (stepQ P I o67_3 nq S p67_3_8 l env = bindQ nq S (op1 P (evalV I env) S (.fieldAddr 69 (.tmp 1) 3)) l (some 18) env) ∧
  (stepQ P I o67_3 nq S p67_3_9 l env = bindQ nq S (op1 P (evalV I env) S (.load 36 (.tmp 18))) l (some 19) env) ∧
  (stepQ P I o67_3 nq S p67_3_10 l env = bindQ nq S (opCall P (evalV I env) S { callee := .builtin .len, args := #[.tmp 19], argTypes := #[36] }) l (some 20) env) ∧
  (stepQ P I o67_3 nq S p67_3_11 l env = bindQ nq S (op1 P (evalV I env) S (.binOp .gtr 3 (.tmp 20) (.const (.int .i64 0)) 3)) l (some 21) env) ∧
  (stepQ P I o67_3 nq S p67_3_12 l env = bindQ nq S (op1 P (evalV I env) S (.fieldAddr 69 (.tmp 1) 5)) l (some 22) env) ∧
  (stepQ P I o67_3 nq S p67_3_13 l env = bindQ nq S (op1 P (evalV I env) S (.load 54 (.tmp 22))) l (some 23) env) ∧
  (stepQ P I o67_3 nq S p67_3_14 l env = bindQ nq S (opCall P (evalV I env) S { callee := .builtin .len, args := #[.tmp 23], argTypes := #[54] }) l (some 24) env) ∧
  (stepQ P I o67_3 nq S p67_3_15 l env = bindQ nq S (op1 P (evalV I env) S (.binOp .gtr 3 (.tmp 24) (.const (.int .i64 0)) 3)) l (some 25) env) ∧
  (stepQ P I o67_3 nq S p67_3_16 l env = bindQ nq S (op1 P (evalV I env) S (.fieldAddr 69 (.tmp 1) 6)) l (some 26) env) ∧
  (stepQ P I o67_3 nq S p67_3_17 l env = bindQ nq S (op1 P (evalV I env) S (.load 54 (.tmp 26))) l (some 27) env) ∧
  (stepQ P I o67_3 nq S p67_3_18 l env = bindQ nq S (opCall P (evalV I env) S { callee := .builtin .len, args := #[.tmp 27], argTypes := #[54] }) l (some 28) env) ∧
  (stepQ P I o67_3 nq S p67_3_19 l env = bindQ nq S (op1 P (evalV I env) S (.binOp .gtr 3 (.tmp 28) (.const (.int .i64 0)) 3)) l (some 29) env) ∧
  (stepQ P I o67_3 nq S p67_3_20 l env = bindQ nq S (op1 P (evalV I env) S (.fieldAddr 69 (.tmp 1) 7)) l (some 30) env) ∧
  (stepQ P I o67_3 nq S p67_3_21 l env = bindQ nq S (op1 P (evalV I env) S (.load 67 (.tmp 30))) l (some 31) env) ∧
  (stepQ P I o67_3 nq S p67_3_22 l env = bindQ nq S (opCall P (evalV I env) S { callee := .builtin .len, args := #[.tmp 31], argTypes := #[67] }) l (some 32) env) ∧
  (stepQ P I o67_3 nq S p67_3_23 l env = bindQ nq S (op1 P (evalV I env) S (.binOp .gtr 3 (.tmp 32) (.const (.int .i64 0)) 3)) l (some 33) env) ∧
  (stepQ P I o67_3 nq S p67_3_24 l env = bindQ nq S (op1 P (evalV I env) S (.assign (.tmp 13))) l (some 3) env) ∧
  (stepQ P I o67_3 nq S p67_3_25 l env = bindQ nq S (op1 P (evalV I env) S (.assign (.tmp 17))) l (some 4) env) ∧
  (stepQ P I o67_3 nq S p67_3_26 l env = bindQ nq S (op1 P (evalV I env) S (.assign (.tmp 21))) l (some 5) env) ∧
  (stepQ P I o67_3 nq S p67_3_27 l env = bindQ nq S (op1 P (evalV I env) S (.assign (.tmp 25))) l (some 6) env) ∧
  (stepQ P I o67_3 nq S p67_3_28 l env = bindQ nq S (op1 P (evalV I env) S (.assign (.tmp 29))) l (some 7) env) ∧
  (stepQ P I o67_3 nq S p67_3_29 l env = bindQ nq S (op1 P (evalV I env) S (.assign (.tmp 33))) l (some 8) env) := by
  repeat' apply And.intro
  all_goals kernel_rfl
theorem c67t  : (o67_3.toList = [p67_3_0, p67_3_1, p67_3_2, p67_3_3, p67_3_4, p67_3_5, p67_3_6, p67_3_7, p67_3_8, p67_3_9, p67_3_10, p67_3_11, p67_3_12, p67_3_13, p67_3_14, p67_3_15, p67_3_16, p67_3_17, p67_3_18, p67_3_19, p67_3_20, p67_3_21, p67_3_22, p67_3_23, p67_3_24, p67_3_25, p67_3_26, p67_3_27, p67_3_28, p67_3_29]) ∧
  (p67_15_5.dst = (some 47)) ∧
  (p67_15_6.dst = (some 48)) ∧
  (p67_15_7.dst = (some 49)) ∧
  (p67_15_8.dst = (some 50)) ∧
  (p67_15_11.dst = (some 53)) ∧
  (p67_15_12.dst = (some 54)) ∧
  (p67_15_13.dst = (some 55)) ∧
  (p67_15_14.dst = (some 56)) ∧
  (p67_15_15.dst = (some 57)) ∧
  (p67_21_5.dst = (some 66)) ∧
  (p67_21_6.dst = (some 67)) ∧
  (p67_21_7.dst = (some 68)) ∧
  (p67_21_8.dst = (some 69)) ∧
  (p67_21_9.dst = (some 70)) ∧
  (p67_21_10.dst = (some 71)) ∧
  (p67_21_11.dst = (some 72)) ∧
  (p67_21_12.dst = (some 73)) ∧
  (p67_21_13.dst = (some 74)) ∧
  (p67_21_14.dst = (some 75)) ∧
  (p67_21_15.dst = (some 76)) ∧
  (p67_21_16.dst = (some 77)) ∧
  (p67_21_17.dst = (some 78)) ∧
  (p67_21_18.dst = (some 79)) ∧
  (p67_21_19.dst = (some 80)) ∧
  (p67_21_20.dst = (some 81)) ∧
  (p67_21_21.dst = (some 82)) ∧
  (p67_21_22.dst = (some 83)) ∧
  (p67_21_25.dst = (some 86)) ∧
  (p67_21_26.dst = (some 87)) ∧
  (p67_21_27.dst = (some 88)) ∧
  (p67_21_28.dst = (some 89)) ∧
  (p67_43_4.dst = (some 107)) ∧
  (p67_43_5.dst = (some 108)) ∧
  (p67_43_6.dst = (some 109)) ∧
  (p67_43_9.dst = (some 112)) ∧
  (p67_43_10.dst = (some 113)) ∧
  (p67_43_11.dst = (some 114)) ∧
  (p67_45_2.dst = (some 118)) ∧
  (p67_45_3.dst = (some 119)) ∧
  (p67_45_4.dst = (some 120)) ∧
  (p67_45_5.dst = (some 121)) ∧
  (p67_45_6.dst = (some 122)) ∧
  (p67_48_2.dst = (some 126)) ∧
  (p67_48_3.dst = (some 127)) ∧
  (p67_48_6.dst = (some 130)) ∧
  (p67_48_7.dst = (some 131)) ∧
  (p67_48_10.dst = (some 134)) ∧
  (p67_48_11.dst = (some 135)) ∧
  (p67_48_14.dst = (some 138)) ∧
  (p67_48_15.dst = (some 139)) ∧
  (p67_48_18.dst = (some 142)) ∧
  (p67_48_19.dst = (some 143)) ∧
  (p67_48_22.dst = (some 146)) ∧
  (p67_48_23.dst = (some 147)) := by
  repeat' apply And.intro
  all_goals kernel_rfl
set_option linter.defProp false in
/-- All of these. -/
def c67 := And.intro @c67s ( And.intro @c67r ( And.intro @c67q (@c67t)))

set_option maxHeartbeats 1000000 in
theorem sized1_ab (x : ExT) (B : List (List V)) (T : List (Nat × Nat)) : AFn Tryd.prog TabI 73 [exV x] ⟨B, T⟩ (Same (.d (.bool (!placeS x))) ⟨B, T⟩) := by
  obtain ⟨N, hn⟩ : ∃ N, B.length = N := ⟨_, rfl⟩
  have h := place_ab x (B ++ [[.d (.int .i64 x.kind), .d (.str x.text), .d (.int .u64 x.int), .d (.int .i64 x.type.kind), .d (.str x.type.name), .d (.sl (x.type.elem.map tyD)), .d (.sl (ssD x.names)), .d (.sl (x.kids.map exD))]]) T
  unfold exV at h ⊢
  refine AFn.bodyE (body := k73_0) 6 Tryd.func73 (by kernel_rfl) (by kernel_rfl) (by kernel_rfl) (Nat.le_of_ble_eq_true rfl) fun hsm => ?_
  simp only [smL, sm, exV, stV, tyV, caV, paV, suV, fuV, prV, Bool.and_eq_true, decide_eq_true_eq, and_true, true_and, List.length_map, ssD_length] at hsm
  refine ARun.go 100 ?_
  simp -implicitDefEqProofs only [awC, awN, Nat.reduceAdd, Nat.reduceSub, Nat.reduceLT, Nat.reduceLeDiff, Nat.reduceEqDiff, Int.reduceToNat, Int.reduceEq, Int.reduceLT, Int.reduceLE, Int.reduceNeg, Int.reduceAdd, Int.reduceSub, Nat.reduceBEq, awT, c73, tys, hn]
  refine callS_fn (h) ?_
  rintro _ _ ⟨rfl, rfl⟩
  refine ARun.go 100 ?_
  simp -implicitDefEqProofs only [awC, awN, Nat.reduceAdd, Nat.reduceSub, Nat.reduceLT, Nat.reduceLeDiff, Nat.reduceEqDiff, Int.reduceToNat, Int.reduceEq, Int.reduceLT, Int.reduceLE, Int.reduceNeg, Int.reduceAdd, Int.reduceSub, Nat.reduceBEq, awT, c73, tys, hn]
  refine ARun.ret Tryd.func73 rfl (Left.box ?_)
  (try clear ih)
  (try simp only [decide_eq_true_eq, decide_eq_false_iff_not, Bool.not_eq_true', Bool.not_eq_false'] at *)
  simp only [wk, Same, List.getD_cons_zero, List.getD_cons_succ, envS_get, envS_eval, lk_cons, lk_nil, Nat.reduceBEq, Nat.reduceAdd, Nat.reduceSub, cond_true, cond_false]
  simp [*]
  skip
def stB (s : StT) : List V := [.d (.int .i64 s.kind), .d (.sl (ssD s.names)), .d (.int .i64 s.type.kind), .d (.str s.type.name), .d (.sl (s.type.elem.map tyD)), .d (.sl (s.lefts.map exD)), .d (.sl (s.exprs.map exD)), .d (.sl (s.body.map stD)), .d (.sl (s.els.map stD)), .d (.sl (s.cases.map caD))]
def headOf : List ExT → Bool | [x] => headS x | _ => false
def sevenOf : List ExT → Bool | [x] => decide (x.kind = 7) | _ => false
def nameOf : List (List UInt8) → Bool | [x] => identS x | _ => false
/-- The same, of what a statement has: b3 names, b4 a type, b5 lefts, b6 a body, b7 another, b8 cases. -/
def sizedB (k : Int) (ns : List (List UInt8)) (ls es : List ExT) (b3 b4 b5 b6 b7 b8 : Bool) : Bool :=
  if k = 1 then decide (es.length = 0) && nameOf ns && !b5 && !b6 && !b7 && !b8
  else if k = 2 then decide (0 < ls.length) && (decide (es.length = ls.length) || sevenOf es) && ls.all placeS && (!b3 && !b4) && !b6 && !b7 && !b8
  else if k = 3 then (!b3 && !b4) && !b5 && headOf es && !b8
  else if k = 4 then (!b3 && !b4) && !b5 && headOf es && !b7 && !b8
  else if k = 5 then (!b3 && !b4) && !b5 && headOf es && !b6
  else if k = 6 then (!b3 && !b4) && !b5 && decide (0 < es.length) && !b6 && !b7 && !b8
  else false
theorem sizedS_eq (s : StT) : sizedS s = sizedB s.kind s.names s.lefts s.exprs (decide ((0 : Int) < (s.names.length : Int))) (!zeroS s.type) (decide ((0 : Int) < (s.lefts.length : Int))) (decide ((0 : Int) < (s.body.length : Int))) (decide ((0 : Int) < (s.els.length : Int))) (decide ((0 : Int) < (s.cases.length : Int))) := by
  have e (n : Nat) : (!decide ((0 : Int) < (n : Int))) = decide (n = 0) := by
    rw [Bool.eq_iff_iff, Bool.not_eq_true', decide_eq_false_iff_not, decide_eq_true_iff]; omega
  have e2 {α : Type} (l : List α) (q : Decidable (l = [])) : decide (l.length = 0) = @decide (l = []) q := decide_eq_decide.2 List.length_eq_zero_iff
  unfold sizedS sizedB
  simp only [e, Bool.not_not]
  rw [e2 s.names, e2 s.lefts]
  rfl
/-- What comes last. -/
def lastB (k : Int) (es : List ExT) (b3 b4 b5 b6 b7 b8 b9 : Bool) : Bool :=
  (if k = 3 ∨ k = 4 ∨ k = 5 then b9 && headOf es else b9) && !b3 && !b4 && !b5 && !b6 && !b7 && !b8
set_option maxHeartbeats 4000000 in
theorem sized_ab (s : StT) (B : List (List V)) (T : List (Nat × Nat)) : AFn Tryd.prog TabI 67 [stV s] ⟨B, T⟩ (Same (.d (.bool (sizedS s))) ⟨B, T⟩) := by
  obtain ⟨N, hn⟩ : ∃ N, B.length = N := ⟨_, rfl⟩
  have hs := sizedS_eq s
  unfold stV
  refine AFn.bodyE (body := k67_0) 149 Tryd.func67 (by kernel_rfl) (by kernel_rfl) (by kernel_rfl) (Nat.le_of_ble_eq_true rfl) fun hsm => ?_
  simp only [smL, sm, exV, stV, tyV, caV, paV, suV, fuV, prV, Bool.and_eq_true, decide_eq_true_eq, and_true, true_and, List.length_map, ssD_length] at hsm
  refine ARun.go 100 ?_
  simp -implicitDefEqProofs only [awC, awN, Nat.reduceAdd, Nat.reduceSub, Nat.reduceLT, Nat.reduceLeDiff, Nat.reduceEqDiff, Int.reduceToNat, Int.reduceEq, Int.reduceLT, Int.reduceLE, Int.reduceNeg, Int.reduceAdd, Int.reduceSub, Nat.reduceBEq, awT, c67, tys, hn]
  obtain ⟨-, -, -, hlf, -⟩ := hsm
  refine ARun.draw (by kernel_rfl) (by kernel_rfl) (lexQ_ok 60 _ _ ?_)
  simp -implicitDefEqProofs only [awC, awN, Nat.reduceAdd, Nat.reduceSub, Nat.reduceLT, Nat.reduceLeDiff, Nat.reduceEqDiff, Int.reduceToNat, Int.reduceEq, Int.reduceLT, Int.reduceLE, Int.reduceNeg, Int.reduceAdd, Int.reduceSub, Nat.reduceBEq, awT, c67, tys, hn]
  refine ⟨_, zero_ab s.type _ _, ?_⟩
  simp -implicitDefEqProofs only [awC, awN, Nat.reduceAdd, Nat.reduceSub, Nat.reduceLT, Nat.reduceLeDiff, Nat.reduceEqDiff, Int.reduceToNat, Int.reduceEq, Int.reduceLT, Int.reduceLE, Int.reduceNeg, Int.reduceAdd, Int.reduceSub, Nat.reduceBEq, awT, c67, tys, hn]
  generalize decide ((0 : Int) < (s.names.length : Int)) = b3 at hs ⊢
  generalize (!zeroS s.type) = b4 at hs ⊢
  generalize hb5 : decide ((0 : Int) < (s.lefts.length : Int)) = b5 at hs ⊢
  generalize decide ((0 : Int) < (s.body.length : Int)) = b6 at hs ⊢
  generalize decide ((0 : Int) < (s.els.length : Int)) = b7 at hs ⊢
  generalize decide ((0 : Int) < (s.cases.length : Int)) = b8 at hs ⊢
  generalize sizedS s = res at hs ⊢
  refine ARun.go 9 ?_
  simp -implicitDefEqProofs only [awC, awN, Nat.reduceAdd, Nat.reduceSub, Nat.reduceLT, Nat.reduceLeDiff, Nat.reduceEqDiff, Int.reduceToNat, Int.reduceEq, Int.reduceLT, Int.reduceLE, Int.reduceNeg, Int.reduceAdd, Int.reduceSub, Nat.reduceBEq, awT, c67, tys, hn]
  refine ARun.join (fun c : Bool × Bool × Bool × Bool × Bool × Bool × Bool => (envS 149 [(1, .ptr N 0), (3, .d (.bool c.1)), (4, .d (.bool c.2.1)), (5, .d (.bool c.2.2.1)), (6, .d (.bool c.2.2.2.1)), (7, .d (.bool c.2.2.2.2.1)), (8, .d (.bool c.2.2.2.2.2.1)), (9, .d (.bool c.2.2.2.2.2.2))], ⟨B ++ [stB s], T⟩)) (fun c => (s.kind = 3 ∨ s.kind = 4 ∨ s.kind = 5 → c.2.2.2.2.2.2 = decide (s.exprs.length = 1)) ∧ lastB s.kind s.exprs c.1 c.2.1 c.2.2.1 c.2.2.2.1 c.2.2.2.2.1 c.2.2.2.2.2.1 c.2.2.2.2.2.2 = res) ?_ ?_
  · rintro ⟨c3, c4, c5, c6, c7, c8, c9⟩ ⟨hc, hr⟩
    dsimp only [stB] at hc hr ⊢
    rw [← hr]
    clear hs hr
    have hcase : (s.kind = 3 ∨ s.kind = 4 ∨ s.kind = 5) → (∃ x, s.exprs[0]? = some x ∧ c9 = true ∧ headOf s.exprs = headS x) ∨ c9 = false := by
      intro h
      rw [hc h]
      rcases s.exprs with _ | ⟨x, _ | ⟨y, l⟩⟩
      · exact .inr rfl
      · exact .inl ⟨x, rfl, rfl, rfl⟩
      · exact .inr (decide_eq_false (by simp))
    clear hc
    by_cases k345 : s.kind = 3 ∨ s.kind = 4 ∨ s.kind = 5
    · have hl : lastB s.kind s.exprs c3 c4 c5 c6 c7 c8 c9 = ((c9 && headOf s.exprs) && !c3 && !c4 && !c5 && !c6 && !c7 && !c8) := by rw [lastB, if_pos k345]
      rw [hl]
      rcases hcase k345 with ⟨x, hg, rfl, hh⟩ | rfl
      · rw [hh]
        have hd := head_ab x
        rcases k345 with k | k | k
        all_goals
          refine ARun.go 200 ?_
          simp -implicitDefEqProofs only [awC, awN, Nat.reduceAdd, Nat.reduceSub, Nat.reduceLT, Nat.reduceLeDiff, Nat.reduceEqDiff, Int.reduceToNat, Int.reduceEq, Int.reduceLT, Int.reduceLE, Int.reduceNeg, Int.reduceAdd, Int.reduceSub, Nat.reduceBEq, awT, c67, tys, hn, k]
          simp -implicitDefEqProofs only [awC, awN, Nat.reduceAdd, Nat.reduceSub, Nat.reduceLT, Nat.reduceLeDiff, Nat.reduceEqDiff, Int.reduceToNat, Int.reduceEq, Int.reduceLT, Int.reduceLE, Int.reduceNeg, Int.reduceAdd, Int.reduceSub, Nat.reduceBEq, awT, c67, tys, hg, List.getElem?_map, exD_eq, k]
          refine callS_fn (hd _ _) ?_
          rintro _ _ ⟨rfl, rfl⟩
          generalize headS x = q
          refine ARun.go 200 ?_
          simp -implicitDefEqProofs only [awC, awN, Nat.reduceAdd, Nat.reduceSub, Nat.reduceLT, Nat.reduceLeDiff, Nat.reduceEqDiff, Int.reduceToNat, Int.reduceEq, Int.reduceLT, Int.reduceLE, Int.reduceNeg, Int.reduceAdd, Int.reduceSub, Nat.reduceBEq, awT, c67, tys, hn, k]
          repeat' (first | (refine guardB_of (fun h => ?_) (fun h => ?_) <;> simp -implicitDefEqProofs only [awC, awN, Nat.reduceAdd, Nat.reduceSub, Nat.reduceLT, Nat.reduceLeDiff, Nat.reduceEqDiff, Int.reduceToNat, Int.reduceEq, Int.reduceLT, Int.reduceLE, Int.reduceNeg, Int.reduceAdd, Int.reduceSub, Nat.reduceBEq, awT, c67, tys, h, hn, k]) | (refine condS_of (fun h => ?_) (fun h => ?_) <;> simp -implicitDefEqProofs only [awC, awN, Nat.reduceAdd, Nat.reduceSub, Nat.reduceLT, Nat.reduceLeDiff, Nat.reduceEqDiff, Int.reduceToNat, Int.reduceEq, Int.reduceLT, Int.reduceLE, Int.reduceNeg, Int.reduceAdd, Int.reduceSub, Nat.reduceBEq, awT, c67, tys, h, hn, k]))
          all_goals
            refine ARun.ret Tryd.func67 rfl (Left.box ?_)
            (try clear ih)
            (try simp only [decide_eq_true_eq, decide_eq_false_iff_not, Bool.not_eq_true', Bool.not_eq_false'] at *)
            simp only [wk, Same, List.getD_cons_zero, List.getD_cons_succ, envS_get, envS_eval, lk_cons, lk_nil, Nat.reduceBEq, Nat.reduceAdd, Nat.reduceSub, cond_true, cond_false]
            simp [*]
            skip
      · rcases k345 with k | k | k
        all_goals
          refine ARun.go 200 ?_
          simp -implicitDefEqProofs only [awC, awN, Nat.reduceAdd, Nat.reduceSub, Nat.reduceLT, Nat.reduceLeDiff, Nat.reduceEqDiff, Int.reduceToNat, Int.reduceEq, Int.reduceLT, Int.reduceLE, Int.reduceNeg, Int.reduceAdd, Int.reduceSub, Nat.reduceBEq, awT, c67, tys, hn, k]
          refine ARun.ret Tryd.func67 rfl (Left.box ?_)
          (try clear ih)
          (try simp only [decide_eq_true_eq, decide_eq_false_iff_not, Bool.not_eq_true', Bool.not_eq_false'] at *)
          simp only [wk, Same, List.getD_cons_zero, List.getD_cons_succ, envS_get, envS_eval, lk_cons, lk_nil, Nat.reduceBEq, Nat.reduceAdd, Nat.reduceSub, cond_true, cond_false]
          simp [*]
          skip
    · have hl : lastB s.kind s.exprs c3 c4 c5 c6 c7 c8 c9 = (c9 && !c3 && !c4 && !c5 && !c6 && !c7 && !c8) := by rw [lastB, if_neg k345]
      rw [hl]
      have k3 : decide (s.kind = 3) = false := decide_eq_false fun h => k345 (.inl h)
      have k4 : decide (s.kind = 4) = false := decide_eq_false fun h => k345 (.inr (.inl h))
      have k5 : decide (s.kind = 5) = false := decide_eq_false fun h => k345 (.inr (.inr h))
      refine ARun.go 200 ?_
      simp -implicitDefEqProofs only [awC, awN, Nat.reduceAdd, Nat.reduceSub, Nat.reduceLT, Nat.reduceLeDiff, Nat.reduceEqDiff, Int.reduceToNat, Int.reduceEq, Int.reduceLT, Int.reduceLE, Int.reduceNeg, Int.reduceAdd, Int.reduceSub, Nat.reduceBEq, awT, c67, tys, hn, k3, k4, k5]
      repeat' (first | (refine guardB_of (fun h => ?_) (fun h => ?_) <;> simp -implicitDefEqProofs only [awC, awN, Nat.reduceAdd, Nat.reduceSub, Nat.reduceLT, Nat.reduceLeDiff, Nat.reduceEqDiff, Int.reduceToNat, Int.reduceEq, Int.reduceLT, Int.reduceLE, Int.reduceNeg, Int.reduceAdd, Int.reduceSub, Nat.reduceBEq, awT, c67, tys, h, hn, k3, k4, k5]) | (refine condS_of (fun h => ?_) (fun h => ?_) <;> simp -implicitDefEqProofs only [awC, awN, Nat.reduceAdd, Nat.reduceSub, Nat.reduceLT, Nat.reduceLeDiff, Nat.reduceEqDiff, Int.reduceToNat, Int.reduceEq, Int.reduceLT, Int.reduceLE, Int.reduceNeg, Int.reduceAdd, Int.reduceSub, Nat.reduceBEq, awT, c67, tys, h, hn, k3, k4, k5]))
      all_goals
        refine ARun.ret Tryd.func67 rfl (Left.box ?_)
        (try clear ih)
        (try simp only [decide_eq_true_eq, decide_eq_false_iff_not, Bool.not_eq_true', Bool.not_eq_false'] at *)
        simp only [wk, Same, List.getD_cons_zero, List.getD_cons_succ, envS_get, envS_eval, lk_cons, lk_nil, Nat.reduceBEq, Nat.reduceAdd, Nat.reduceSub, cond_true, cond_false]
        simp [*]
        skip
  · intro K' hK
    have he1 : decide ((s.exprs.length : Int) = 1) = decide (s.exprs.length = 1) := decide_eq_decide.2 (by omega)
    have he6 : decide ((0 : Int) < (s.exprs.length : Int)) = decide (0 < s.exprs.length) := decide_eq_decide.2 (by omega)
    have he0 : decide ((s.exprs.length : Int) = 0) = decide (s.exprs.length = 0) := decide_eq_decide.2 (by omega)
    have hh : (decide (s.exprs.length = 1) && headOf s.exprs) = headOf s.exprs := by rcases s.exprs with _ | ⟨x, _ | ⟨y, l⟩⟩ <;> simp [headOf]
    by_cases k1 : s.kind = 1
    · have hz : ∀ v : Bool, lastB s.kind s.exprs false false b5 b6 b7 b8 v = (v && !b5 && !b6 && !b7 && !b8) := fun v => by simp [lastB, k1]
      have hs : res = (decide (s.exprs.length = 0) && nameOf s.names && !b5 && !b6 && !b7 && !b8) := by rw [hs, sizedB, if_pos k1]
      rcases hN : s.names with _ | ⟨x, _ | ⟨y, l⟩⟩
      all_goals
        have hl2 : ∀ n : Nat, decide ((n : Int) + 1 + 1 = 1) = false := fun n => decide_eq_false (by omega)
        rw [hN] at hs
        refine ARun.goJ 400 ?_
        simp -implicitDefEqProofs only [awC, awN, Nat.reduceAdd, Nat.reduceSub, Nat.reduceLT, Nat.reduceLeDiff, Nat.reduceEqDiff, Int.reduceToNat, Int.reduceEq, Int.reduceLT, Int.reduceLE, Int.reduceNeg, Int.reduceAdd, Int.reduceSub, Nat.reduceBEq, awT, c67, tys, hn, k1, hN, he0, hl2]
        repeat' (first | (refine guardB_of (fun h => ?_) (fun h => ?_) <;> simp -implicitDefEqProofs only [awC, awN, Nat.reduceAdd, Nat.reduceSub, Nat.reduceLT, Nat.reduceLeDiff, Nat.reduceEqDiff, Int.reduceToNat, Int.reduceEq, Int.reduceLT, Int.reduceLE, Int.reduceNeg, Int.reduceAdd, Int.reduceSub, Nat.reduceBEq, awT, c67, tys, h, hn, k1, hN, he0, hl2]) | (refine condS_of (fun h => ?_) (fun h => ?_) <;> simp -implicitDefEqProofs only [awC, awN, Nat.reduceAdd, Nat.reduceSub, Nat.reduceLT, Nat.reduceLeDiff, Nat.reduceEqDiff, Int.reduceToNat, Int.reduceEq, Int.reduceLT, Int.reduceLE, Int.reduceNeg, Int.reduceAdd, Int.reduceSub, Nat.reduceBEq, awT, c67, tys, h, hn, k1, hN, he0, hl2]))
        all_goals first
          | (refine hK (false, false, b5, b6, b7, b8, false) ⟨fun h => absurd h (by omega), ?_⟩ _ _ ?_ ?_
             · rw [hz, hs]
               simp only [nameOf, h, Bool.and_false, Bool.false_and]
             · skip
               refine Agree.env _ ?_
               simp only [agree_cons, agree_nil, eq_self, and_self, true_and, and_true, Int.natCast_add, Int.natCast_one, Int.natCast_zero, envS_get, envS_eval, lk_cons, lk_nil, Nat.reduceBEq, Nat.reduceAdd, Nat.reduceSub, cond_true, cond_false]
               skip
             · simp only [stB, k1, hN])
          | (skip
             refine callS_fn (ident_ab _ _) ?_
             rintro _ _ ⟨rfl, rfl⟩
             refine ARun.goK 200 ?_
             simp -implicitDefEqProofs only [awC, awN, Nat.reduceAdd, Nat.reduceSub, Nat.reduceLT, Nat.reduceLeDiff, Nat.reduceEqDiff, Int.reduceToNat, Int.reduceEq, Int.reduceLT, Int.reduceLE, Int.reduceNeg, Int.reduceAdd, Int.reduceSub, Nat.reduceBEq, awT, c67, tys, hn, k1, hN, he0, hl2]
             refine hK (false, false, b5, b6, b7, b8, identS x) ⟨fun h => absurd h (by omega), ?_⟩ _ _ ?_ ?_
             · rw [hz, hs]
               simp only [nameOf, h, Bool.true_and]
             · skip
               refine Agree.env _ ?_
               simp only [agree_cons, agree_nil, eq_self, and_self, true_and, and_true, Int.natCast_add, Int.natCast_one, Int.natCast_zero, envS_get, envS_eval, lk_cons, lk_nil, Nat.reduceBEq, Nat.reduceAdd, Nat.reduceSub, cond_true, cond_false]
               skip
             · simp only [stB, k1, hN])
          | (refine hK (false, false, b5, b6, b7, b8, false) ⟨fun h => absurd h (by omega), ?_⟩ _ _ ?_ ?_
             · fail
             · skip
               refine Agree.env _ ?_
               simp only [agree_cons, agree_nil, eq_self, and_self, true_and, and_true, Int.natCast_add, Int.natCast_one, Int.natCast_zero, envS_get, envS_eval, lk_cons, lk_nil, Nat.reduceBEq, Nat.reduceAdd, Nat.reduceSub, cond_true, cond_false]
               skip
             · simp only [stB, k1, hN])
    by_cases k2 : s.kind = 2
    · have hz : ∀ v : Bool, lastB s.kind s.exprs b3 b4 false b6 b7 b8 v = (v && !b3 && !b4 && !b6 && !b7 && !b8) := fun v => by simp [lastB, k2]
      have hs : res = (decide (0 < s.lefts.length) && (decide (s.exprs.length = s.lefts.length) || sevenOf s.exprs) && s.lefts.all placeS && (!b3 && !b4) && !b6 && !b7 && !b8) := by rw [hs, sizedB, if_neg k1, if_pos k2]
      have hb5' : decide (0 < s.lefts.length) = b5 := hb5 ▸ decide_eq_decide.2 (by omega)
      obtain ⟨be, hbe⟩ : ∃ b, decide ((s.exprs.length : Int) = (s.lefts.length : Int)) = b := ⟨_, rfl⟩
      have hbe' : decide (s.exprs.length = s.lefts.length) = be := hbe ▸ decide_eq_decide.2 (by omega)
      obtain ⟨b7', hsv⟩ : ∃ b, sevenOf s.exprs = b := ⟨_, rfl⟩
      rw [hb5', hbe', hsv] at hs
      have hw : ∀ v : Bool, v = (b5 && (be || b7') && s.lefts.all placeS) → lastB s.kind s.exprs b3 b4 false b6 b7 b8 v = res := fun v hv => by
        rw [hz, hs, hv]
        generalize s.lefts.all placeS = q
        cases b3 <;> cases b4 <;> cases b5 <;> cases be <;> cases b7' <;> cases q <;> cases b6 <;> cases b7 <;> cases b8 <;> rfl
      clear hz hs
      have hcase : (∃ x, s.exprs[0]? = some x ∧ decide ((s.exprs.length : Int) = 1) = true ∧ decide (x.kind = 7) = b7') ∨ (decide ((s.exprs.length : Int) = 1) = false ∧ b7' = false) := by
        rw [← hsv]
        rcases s.exprs with _ | ⟨x, _ | ⟨y, l⟩⟩
        · exact .inr ⟨by decide, rfl⟩
        · exact .inl ⟨x, rfl, by simp, rfl⟩
        · exact .inr ⟨decide_eq_false (by simp; omega), rfl⟩
      rcases hcase with ⟨x, hg, hg1, hg2⟩ | ⟨hg1, hg2⟩
      · refine ARun.goJ 400 ?_
        simp -implicitDefEqProofs only [awC, awN, Nat.reduceAdd, Nat.reduceSub, Nat.reduceLT, Nat.reduceLeDiff, Nat.reduceEqDiff, Int.reduceToNat, Int.reduceEq, Int.reduceLT, Int.reduceLE, Int.reduceNeg, Int.reduceAdd, Int.reduceSub, Nat.reduceBEq, awT, c67, tys, hn, k2, hb5, hbe, hg, hg1, hg2, List.getElem?_map, exD_eq]
        repeat' (first | (refine guardB_of (fun h => ?_) (fun h => ?_) <;> simp -implicitDefEqProofs only [awC, awN, Nat.reduceAdd, Nat.reduceSub, Nat.reduceLT, Nat.reduceLeDiff, Nat.reduceEqDiff, Int.reduceToNat, Int.reduceEq, Int.reduceLT, Int.reduceLE, Int.reduceNeg, Int.reduceAdd, Int.reduceSub, Nat.reduceBEq, awT, c67, tys, h, hn, k2, hb5, hbe, hg, hg1, hg2, List.getElem?_map, exD_eq]) | (refine condS_of (fun h => ?_) (fun h => ?_) <;> simp -implicitDefEqProofs only [awC, awN, Nat.reduceAdd, Nat.reduceSub, Nat.reduceLT, Nat.reduceLeDiff, Nat.reduceEqDiff, Int.reduceToNat, Int.reduceEq, Int.reduceLT, Int.reduceLE, Int.reduceNeg, Int.reduceAdd, Int.reduceSub, Nat.reduceBEq, awT, c67, tys, h, hn, k2, hb5, hbe, hg, hg1, hg2, List.getElem?_map, exD_eq]))
        all_goals first
          | (refine hK (b3, b4, false, b6, b7, b8, false) ⟨fun h => absurd h (by omega), hw _ (by simp [*])⟩ _ _ ?_ ?_
             · skip
               refine Agree.env _ ?_
               simp only [agree_cons, agree_nil, eq_self, and_self, true_and, and_true, Int.natCast_add, Int.natCast_one, Int.natCast_zero, envS_get, envS_eval, lk_cons, lk_nil, Nat.reduceBEq, Nat.reduceAdd, Nat.reduceSub, cond_true, cond_false]
               skip
             · simp only [stB, k2])
          | (refine callS_fn (containsFunc_Expr 73 [] [] (fun _ : Unit => _) (fun x s => (!placeS x, s)) (fun _ _ => ⟨rfl, rfl⟩) s.lefts hlf () (good_of s.lefts fun x hm => sized1_ab x _ T)) ?_
             rintro _ _ ⟨rfl, rfl⟩
             rw [anyF_unit, any_not]
             refine ARun.goK 200 ?_
             simp -implicitDefEqProofs only [awC, awN, Nat.reduceAdd, Nat.reduceSub, Nat.reduceLT, Nat.reduceLeDiff, Nat.reduceEqDiff, Int.reduceToNat, Int.reduceEq, Int.reduceLT, Int.reduceLE, Int.reduceNeg, Int.reduceAdd, Int.reduceSub, Nat.reduceBEq, awT, c67, tys, hn, k2, Bool.not_not]
             refine hK (b3, b4, false, b6, b7, b8, s.lefts.all placeS) ⟨fun h => absurd h (by omega), hw _ (by simp [*])⟩ _ _ ?_ ?_
             · skip
               refine Agree.env _ ?_
               simp only [agree_cons, agree_nil, eq_self, and_self, true_and, and_true, Int.natCast_add, Int.natCast_one, Int.natCast_zero, envS_get, envS_eval, lk_cons, lk_nil, Nat.reduceBEq, Nat.reduceAdd, Nat.reduceSub, cond_true, cond_false]
               skip
             · simp only [stB, k2])
          | fail
      · refine ARun.goJ 400 ?_
        simp -implicitDefEqProofs only [awC, awN, Nat.reduceAdd, Nat.reduceSub, Nat.reduceLT, Nat.reduceLeDiff, Nat.reduceEqDiff, Int.reduceToNat, Int.reduceEq, Int.reduceLT, Int.reduceLE, Int.reduceNeg, Int.reduceAdd, Int.reduceSub, Nat.reduceBEq, awT, c67, tys, hn, k2, hb5, hbe, hg1]
        repeat' (first | (refine guardB_of (fun h => ?_) (fun h => ?_) <;> simp -implicitDefEqProofs only [awC, awN, Nat.reduceAdd, Nat.reduceSub, Nat.reduceLT, Nat.reduceLeDiff, Nat.reduceEqDiff, Int.reduceToNat, Int.reduceEq, Int.reduceLT, Int.reduceLE, Int.reduceNeg, Int.reduceAdd, Int.reduceSub, Nat.reduceBEq, awT, c67, tys, h, hn, k2, hb5, hbe, hg1]) | (refine condS_of (fun h => ?_) (fun h => ?_) <;> simp -implicitDefEqProofs only [awC, awN, Nat.reduceAdd, Nat.reduceSub, Nat.reduceLT, Nat.reduceLeDiff, Nat.reduceEqDiff, Int.reduceToNat, Int.reduceEq, Int.reduceLT, Int.reduceLE, Int.reduceNeg, Int.reduceAdd, Int.reduceSub, Nat.reduceBEq, awT, c67, tys, h, hn, k2, hb5, hbe, hg1]))
        all_goals first
          | (refine hK (b3, b4, false, b6, b7, b8, false) ⟨fun h => absurd h (by omega), hw _ (by simp [*])⟩ _ _ ?_ ?_
             · skip
               refine Agree.env _ ?_
               simp only [agree_cons, agree_nil, eq_self, and_self, true_and, and_true, Int.natCast_add, Int.natCast_one, Int.natCast_zero, envS_get, envS_eval, lk_cons, lk_nil, Nat.reduceBEq, Nat.reduceAdd, Nat.reduceSub, cond_true, cond_false]
               skip
             · simp only [stB, k2])
          | (refine callS_fn (containsFunc_Expr 73 [] [] (fun _ : Unit => _) (fun x s => (!placeS x, s)) (fun _ _ => ⟨rfl, rfl⟩) s.lefts hlf () (good_of s.lefts fun x hm => sized1_ab x _ T)) ?_
             rintro _ _ ⟨rfl, rfl⟩
             rw [anyF_unit, any_not]
             refine ARun.goK 200 ?_
             simp -implicitDefEqProofs only [awC, awN, Nat.reduceAdd, Nat.reduceSub, Nat.reduceLT, Nat.reduceLeDiff, Nat.reduceEqDiff, Int.reduceToNat, Int.reduceEq, Int.reduceLT, Int.reduceLE, Int.reduceNeg, Int.reduceAdd, Int.reduceSub, Nat.reduceBEq, awT, c67, tys, hn, k2, Bool.not_not]
             refine hK (b3, b4, false, b6, b7, b8, s.lefts.all placeS) ⟨fun h => absurd h (by omega), hw _ (by simp [*])⟩ _ _ ?_ ?_
             · skip
               refine Agree.env _ ?_
               simp only [agree_cons, agree_nil, eq_self, and_self, true_and, and_true, Int.natCast_add, Int.natCast_one, Int.natCast_zero, envS_get, envS_eval, lk_cons, lk_nil, Nat.reduceBEq, Nat.reduceAdd, Nat.reduceSub, cond_true, cond_false]
               skip
             · simp only [stB, k2])
          | fail
    by_cases k3 : s.kind = 3
    · have hs : res = ((!b3 && !b4) && !b5 && headOf s.exprs && !b8) := by rw [hs, sizedB, if_neg k1, if_neg k2, if_pos k3]
      refine ARun.goJ 400 ?_
      simp -implicitDefEqProofs only [awC, awN, Nat.reduceAdd, Nat.reduceSub, Nat.reduceLT, Nat.reduceLeDiff, Nat.reduceEqDiff, Int.reduceToNat, Int.reduceEq, Int.reduceLT, Int.reduceLE, Int.reduceNeg, Int.reduceAdd, Int.reduceSub, Nat.reduceBEq, awT, c67, tys, hn, k3, he1]
      refine hK (b3, b4, b5, false, false, b8, decide (s.exprs.length = 1)) ⟨fun _ => rfl, ?_⟩ _ _ ?_ ?_
      · rw [hs, lastB, if_pos (.inl k3), hh]
        generalize headOf s.exprs = hd
        cases b3 <;> cases b4 <;> cases b5 <;> cases b8 <;> cases hd <;> rfl
      · skip
        refine Agree.env _ ?_
        simp only [agree_cons, agree_nil, eq_self, and_self, true_and, and_true, Int.natCast_add, Int.natCast_one, Int.natCast_zero, envS_get, envS_eval, lk_cons, lk_nil, Nat.reduceBEq, Nat.reduceAdd, Nat.reduceSub, cond_true, cond_false]
        skip
      · simp only [stB, k3]
    by_cases k4 : s.kind = 4
    · have hs : res = ((!b3 && !b4) && !b5 && headOf s.exprs && !b7 && !b8) := by rw [hs, sizedB, if_neg k1, if_neg k2, if_neg k3, if_pos k4]
      refine ARun.goJ 400 ?_
      simp -implicitDefEqProofs only [awC, awN, Nat.reduceAdd, Nat.reduceSub, Nat.reduceLT, Nat.reduceLeDiff, Nat.reduceEqDiff, Int.reduceToNat, Int.reduceEq, Int.reduceLT, Int.reduceLE, Int.reduceNeg, Int.reduceAdd, Int.reduceSub, Nat.reduceBEq, awT, c67, tys, hn, k4, he1]
      refine hK (b3, b4, b5, false, b7, b8, decide (s.exprs.length = 1)) ⟨fun _ => rfl, ?_⟩ _ _ ?_ ?_
      · rw [hs, lastB, if_pos (.inr (.inl k4)), hh]
        generalize headOf s.exprs = hd
        cases b3 <;> cases b4 <;> cases b5 <;> cases b7 <;> cases b8 <;> cases hd <;> rfl
      · skip
        refine Agree.env _ ?_
        simp only [agree_cons, agree_nil, eq_self, and_self, true_and, and_true, Int.natCast_add, Int.natCast_one, Int.natCast_zero, envS_get, envS_eval, lk_cons, lk_nil, Nat.reduceBEq, Nat.reduceAdd, Nat.reduceSub, cond_true, cond_false]
        skip
      · simp only [stB, k4]
    by_cases k5 : s.kind = 5
    · have hs : res = ((!b3 && !b4) && !b5 && headOf s.exprs && !b6) := by rw [hs, sizedB, if_neg k1, if_neg k2, if_neg k3, if_neg k4, if_pos k5]
      refine ARun.goJ 400 ?_
      simp -implicitDefEqProofs only [awC, awN, Nat.reduceAdd, Nat.reduceSub, Nat.reduceLT, Nat.reduceLeDiff, Nat.reduceEqDiff, Int.reduceToNat, Int.reduceEq, Int.reduceLT, Int.reduceLE, Int.reduceNeg, Int.reduceAdd, Int.reduceSub, Nat.reduceBEq, awT, c67, tys, hn, k5, he1]
      refine hK (b3, b4, b5, b6, false, false, decide (s.exprs.length = 1)) ⟨fun _ => rfl, ?_⟩ _ _ ?_ ?_
      · rw [hs, lastB, if_pos (.inr (.inr k5)), hh]
        generalize headOf s.exprs = hd
        cases b3 <;> cases b4 <;> cases b5 <;> cases b6 <;> cases hd <;> rfl
      · skip
        refine Agree.env _ ?_
        simp only [agree_cons, agree_nil, eq_self, and_self, true_and, and_true, Int.natCast_add, Int.natCast_one, Int.natCast_zero, envS_get, envS_eval, lk_cons, lk_nil, Nat.reduceBEq, Nat.reduceAdd, Nat.reduceSub, cond_true, cond_false]
        skip
      · simp only [stB, k5]
    by_cases k6 : s.kind = 6
    · have hs : res = ((!b3 && !b4) && !b5 && decide (0 < s.exprs.length) && !b6 && !b7 && !b8) := by rw [hs, sizedB, if_neg k1, if_neg k2, if_neg k3, if_neg k4, if_neg k5, if_pos k6]
      refine ARun.goJ 400 ?_
      simp -implicitDefEqProofs only [awC, awN, Nat.reduceAdd, Nat.reduceSub, Nat.reduceLT, Nat.reduceLeDiff, Nat.reduceEqDiff, Int.reduceToNat, Int.reduceEq, Int.reduceLT, Int.reduceLE, Int.reduceNeg, Int.reduceAdd, Int.reduceSub, Nat.reduceBEq, awT, c67, tys, hn, k6, he6]
      refine hK (b3, b4, b5, b6, b7, b8, decide (0 < s.exprs.length)) ⟨fun h => absurd h (by omega), ?_⟩ _ _ ?_ ?_
      · rw [hs, lastB, if_neg (by omega)]
        generalize decide (0 < s.exprs.length) = hd
        cases b3 <;> cases b4 <;> cases b5 <;> cases b6 <;> cases b7 <;> cases b8 <;> cases hd <;> rfl
      · skip
        refine Agree.env _ ?_
        simp only [agree_cons, agree_nil, eq_self, and_self, true_and, and_true, Int.natCast_add, Int.natCast_one, Int.natCast_zero, envS_get, envS_eval, lk_cons, lk_nil, Nat.reduceBEq, Nat.reduceAdd, Nat.reduceSub, cond_true, cond_false]
        skip
      · simp only [stB, k6]
    have hs : res = false := by rw [hs, sizedB, if_neg k1, if_neg k2, if_neg k3, if_neg k4, if_neg k5, if_neg k6]
    have e1 := decide_eq_false k1
    have e2 := decide_eq_false k2
    have e3 := decide_eq_false k3
    have e4 := decide_eq_false k4
    have e5 := decide_eq_false k5
    have e6 := decide_eq_false k6
    refine ARun.goJ 400 ?_
    simp -implicitDefEqProofs only [awC, awN, Nat.reduceAdd, Nat.reduceSub, Nat.reduceLT, Nat.reduceLeDiff, Nat.reduceEqDiff, Int.reduceToNat, Int.reduceEq, Int.reduceLT, Int.reduceLE, Int.reduceNeg, Int.reduceAdd, Int.reduceSub, Nat.reduceBEq, awT, c67, tys, hn, e1, e2, e3, e4, e5, e6]
    refine ARun.ret Tryd.func67 rfl (Left.box ?_)
    rw [hs]
    (try clear ih)
    (try simp only [decide_eq_true_eq, decide_eq_false_iff_not, Bool.not_eq_true', Bool.not_eq_false'] at *)
    simp only [wk, Same, List.getD_cons_zero, List.getD_cons_succ, envS_get, envS_eval, lk_cons, lk_nil, Nat.reduceBEq, Nat.reduceAdd, Nat.reduceSub, cond_true, cond_false]
    simp [*]
    skip
end Go.Proofs.YtombghldgdcjcaaDoor

/- slices.EqualFunc, of any closure that leaves memory alone. -/
namespace Go.Proofs.YtombghldgdcjcaaDoor
open Go.RowKit Go.Av Go.Ab
set_option linter.unusedSimpArgs false
set_option maxRecDepth 100000

noncomputable def k23_0 : Code := bodyOf Tryd.f23
noncomputable def k23_1 : Code := lft k23_0
noncomputable def o23_1 : Array Oper := opsOf k23_1
noncomputable def k23_2 : Code := rgt k23_0
noncomputable def k23_3 : Code := lft k23_2
noncomputable def k23_4 : Code := lft k23_3
noncomputable def o23_4 : Array Oper := opsOf k23_4
noncomputable def k23_5 : Code := rgt k23_3
noncomputable def k23_6 : Code := lft k23_5
noncomputable def k23_7 : Code := lft k23_6
noncomputable def o23_7 : Array Oper := opsOf k23_7
noncomputable def k23_8 : Code := rgt k23_6
noncomputable def k23_9 : Code := rgt k23_5
noncomputable def k23_10 : Code := rgt k23_2
noncomputable def k23_11 : Code := lft k23_10
noncomputable def k23_12 : Code := lft k23_11
noncomputable def o23_12 : Array Oper := opsOf k23_12
noncomputable def k23_13 : Code := rgt k23_11
noncomputable def k23_14 : Code := lft k23_13
noncomputable def k23_15 : Code := lft k23_14
noncomputable def k23_16 : Code := lft k23_15
noncomputable def o23_16 : Array Oper := opsOf k23_16
noncomputable def k23_17 : Code := rgt k23_15
noncomputable def k23_18 : Code := lft k23_17
noncomputable def k23_19 : Code := lft k23_18
noncomputable def k23_20 : Code := rgt k23_18
noncomputable def k23_21 : Code := rgt k23_17
noncomputable def k23_22 : Code := lft k23_21
noncomputable def k23_23 : Code := lft k23_22
noncomputable def k23_24 : Code := lft k23_23
noncomputable def o23_24 : Array Oper := opsOf k23_24
noncomputable def k23_25 : Code := rgt k23_23
noncomputable def k23_26 : Code := lft k23_25
noncomputable def o23_26 : Array Oper := opsOf k23_26
noncomputable def k23_27 : Code := rgt k23_25
noncomputable def k23_28 : Code := lft k23_27
noncomputable def o23_28 : Array Oper := opsOf k23_28
noncomputable def k23_29 : Code := rgt k23_27
noncomputable def k23_30 : Code := lft k23_29
noncomputable def k23_31 : Code := lft k23_30
noncomputable def o23_31 : Array Oper := opsOf k23_31
noncomputable def k23_32 : Code := rgt k23_30
noncomputable def k23_33 : Code := rgt k23_29
noncomputable def k23_34 : Code := rgt k23_21
noncomputable def o23_34 : Array Oper := opsOf k23_34
noncomputable def k23_35 : Code := rgt k23_10
noncomputable def k23_36 : Code := lft k23_35
noncomputable def o23_36 : Array Oper := opsOf k23_36
noncomputable def k23_37 : Code := rgt k23_35
theorem c23s (I : Inv) (next stop : Cont) (k : List Item) (env : List V) (S : Mem) : (codeS I next stop k23_1 k env S = next (.inRegion o23_1 [0] :: k) env S) ∧
  (codeS I next stop k23_4 k env S = next (.inRegion o23_4 [0, 1, 2, 3, 4] :: k) env S) ∧
  (codeS I next stop k23_7 k env S = next (.inRegion o23_7 [0] :: k) env S) ∧
  (codeS I next stop k23_8 k env S = stop (.code .ret :: k) env S) ∧
  (codeS I next stop k23_6 k env S = next (.code k23_7 :: .code k23_8 :: k) env S) ∧
  (codeS I next stop k23_9 k env S = next k env S) ∧
  (codeS I next stop k23_5 k env S = condV next (evalV I env (.tmp 14)) k23_6 k23_9 k env S) ∧
  (codeS I next stop k23_3 k env S = next (.code k23_4 :: .code k23_5 :: k) env S) ∧
  (codeS I next stop k23_12 k env S = next (.inRegion o23_12 [0, 1, 2] :: k) env S) ∧
  (codeS I next stop k23_16 k env S = next (.inRegion o23_16 [0] :: k) env S) ∧
  (codeS I next stop k23_19 k env S = next k env S) ∧
  (codeS I next stop k23_20 k env S = exitV next (exitTo 0 k) env S) ∧
  (codeS I next stop k23_18 k env S = condV next (evalV I env (.tmp 18)) k23_19 k23_20 k env S) ∧
  (codeS I next stop k23_24 k env S = next (.inRegion o23_24 [0, 1, 2, 3, 4, 5] :: k) env S) ∧
  (codeS I next stop k23_26 k env S = next (.inRegion o23_26 [0, 1, 2, 3, 4, 5] :: k) env S) ∧
  (codeS I next stop k23_28 k env S = next (.inRegion o23_28 [0, 1, 2, 3, 4] :: k) env S) ∧
  (codeS I next stop k23_31 k env S = next (.inRegion o23_31 [0] :: k) env S) ∧
  (codeS I next stop k23_32 k env S = stop (.code .ret :: k) env S) ∧
  (codeS I next stop k23_30 k env S = next (.code k23_31 :: .code k23_32 :: k) env S) ∧
  (codeS I next stop k23_33 k env S = next k env S) ∧
  (codeS I next stop k23_29 k env S = condV next (evalV I env (.tmp 30)) k23_30 k23_33 k env S) ∧
  (codeS I next stop k23_27 k env S = next (.code k23_28 :: .code k23_29 :: k) env S) ∧
  (codeS I next stop k23_25 k env S = next (.code k23_26 :: .code k23_27 :: k) env S) ∧
  (codeS I next stop k23_23 k env S = next (.code k23_24 :: .code k23_25 :: k) env S) ∧
  (codeS I next stop k23_22 k env S = next (.code k23_23 :: .inBlock 1 :: k) env S) ∧
  (codeS I next stop k23_34 k env S = next (.inRegion o23_34 [0, 1] :: k) env S) ∧
  (codeS I next stop k23_21 k env S = next (.code k23_22 :: .code k23_34 :: k) env S) ∧
  (codeS I next stop k23_17 k env S = next (.code k23_18 :: .code k23_21 :: k) env S) ∧
  (codeS I next stop k23_15 k env S = next (.code k23_16 :: .code k23_17 :: k) env S) ∧
  (codeS I next stop k23_14 k env S = stop (.code (.loop k23_15) :: k) env S) ∧
  (codeS I next stop k23_13 k env S = next (.code k23_14 :: .inBlock 0 :: k) env S) ∧
  (codeS I next stop k23_11 k env S = next (.code k23_12 :: .code k23_13 :: k) env S) ∧
  (codeS I next stop k23_36 k env S = next (.inRegion o23_36 [0] :: k) env S) ∧
  (codeS I next stop k23_37 k env S = stop (.code .ret :: k) env S) ∧
  (codeS I next stop k23_35 k env S = next (.code k23_36 :: .code k23_37 :: k) env S) ∧
  (codeS I next stop k23_10 k env S = next (.code k23_11 :: .code k23_35 :: k) env S) ∧
  (codeS I next stop k23_2 k env S = next (.code k23_3 :: .code k23_10 :: k) env S) ∧
  (codeS I next stop k23_0 k env S = next (.code k23_1 :: .code k23_2 :: k) env S) := by
  repeat' apply And.intro
  all_goals kernel_rfl
theorem c23r (P : Program) (I : Inv) (next stop : Cont) (rest : List Nat) (k : List Item) (env : List V) (S : Mem) : (regS P I next stop o23_1 0 rest k env S = bindS next (op1 P (evalV I env) S (.assign (.const (.bool false)))) (.inRegion o23_1 rest :: k) (some 6) env) ∧
  (regS P I next stop o23_4 0 rest k env S = bindS next (op1 P (evalV I env) S (.move (.tmp 0))) (.inRegion o23_4 rest :: k) (some 10) env) ∧
  (regS P I next stop o23_4 1 rest k env S = bindS next (opCall P (evalV I env) S { callee := .builtin .len, args := #[.tmp 10], argTypes := #[32] }) (.inRegion o23_4 rest :: k) (some 11) env) ∧
  (regS P I next stop o23_4 2 rest k env S = bindS next (op1 P (evalV I env) S (.move (.tmp 1))) (.inRegion o23_4 rest :: k) (some 12) env) ∧
  (regS P I next stop o23_4 3 rest k env S = bindS next (opCall P (evalV I env) S { callee := .builtin .len, args := #[.tmp 12], argTypes := #[32] }) (.inRegion o23_4 rest :: k) (some 13) env) ∧
  (regS P I next stop o23_4 4 rest k env S = bindS next (op1 P (evalV I env) S (.binOp .neq 3 (.tmp 11) (.tmp 13) 3)) (.inRegion o23_4 rest :: k) (some 14) env) ∧
  (regS P I next stop o23_7 0 rest k env S = bindS next (op1 P (evalV I env) S (.assign (.const (.bool false)))) (.inRegion o23_7 rest :: k) (some 6) env) ∧
  (regS P I next stop o23_12 0 rest k env S = bindS next (op1 P (evalV I env) S (.move (.tmp 0))) (.inRegion o23_12 rest :: k) (some 15) env) ∧
  (regS P I next stop o23_12 1 rest k env S = bindS next (opCall P (evalV I env) S { callee := .builtin .len, args := #[.tmp 15], argTypes := #[32] }) (.inRegion o23_12 rest :: k) (some 16) env) ∧
  (regS P I next stop o23_12 2 rest k env S = bindS next (op1 P (evalV I env) S (.move (.const (.int .i64 0)))) (.inRegion o23_12 rest :: k) (some 17) env) ∧
  (regS P I next stop o23_16 0 rest k env S = bindS next (op1 P (evalV I env) S (.binOp .lss 3 (.tmp 17) (.tmp 16) 3)) (.inRegion o23_16 rest :: k) (some 18) env) ∧
  (regS P I next stop o23_24 0 rest k env S = bindS next (op1 P (evalV I env) S (.move (.tmp 17))) (.inRegion o23_24 rest :: k) (some 19) env) ∧
  (regS P I next stop o23_24 1 rest k env S = bindS next (op1 P (evalV I env) S (.indexAddr 32 (.tmp 15) (.tmp 17))) (.inRegion o23_24 rest :: k) (some 20) env) ∧
  (regS P I next stop o23_24 2 rest k env S = bindS next (op1 P (evalV I env) S (.load 34 (.tmp 20))) (.inRegion o23_24 rest :: k) (some 21) env) ∧
  (regS P I next stop o23_24 3 rest k env S = bindS next (op1 P (evalV I env) S (.alloc 34)) (.inRegion o23_24 rest :: k) (some 8) env) ∧
  (regS P I next stop o23_24 4 rest k env S = bindS next (op1 P (evalV I env) S (.assign (.tmp 19))) (.inRegion o23_24 rest :: k) (some 7) env) ∧
  (regS P I next stop o23_24 5 rest k env S = bindS next (op1 P (evalV I env) S (.store 34 (.tmp 8) (.tmp 21))) (.inRegion o23_24 rest :: k) none env) ∧
  (regS P I next stop o23_26 0 rest k env S = bindS next (op1 P (evalV I env) S (.move (.tmp 1))) (.inRegion o23_26 rest :: k) (some 22) env) ∧
  (regS P I next stop o23_26 1 rest k env S = bindS next (op1 P (evalV I env) S (.move (.tmp 7))) (.inRegion o23_26 rest :: k) (some 23) env) ∧
  (regS P I next stop o23_26 2 rest k env S = bindS next (op1 P (evalV I env) S (.indexAddr 32 (.tmp 22) (.tmp 23))) (.inRegion o23_26 rest :: k) (some 24) env) ∧
  (regS P I next stop o23_26 3 rest k env S = bindS next (op1 P (evalV I env) S (.load 34 (.tmp 24))) (.inRegion o23_26 rest :: k) (some 25) env) ∧
  (regS P I next stop o23_26 4 rest k env S = bindS next (op1 P (evalV I env) S (.alloc 34)) (.inRegion o23_26 rest :: k) (some 9) env) ∧
  (regS P I next stop o23_26 5 rest k env S = bindS next (op1 P (evalV I env) S (.store 34 (.tmp 9) (.tmp 25))) (.inRegion o23_26 rest :: k) none env) ∧
  (regS P I next stop o23_28 0 rest k env S = bindS next (op1 P (evalV I env) S (.move (.tmp 2))) (.inRegion o23_28 rest :: k) (some 26) env) ∧
  (regS P I next stop o23_28 1 rest k env S = bindS next (op1 P (evalV I env) S (.load 34 (.tmp 8))) (.inRegion o23_28 rest :: k) (some 27) env) ∧
  (regS P I next stop o23_28 2 rest k env S = bindS next (op1 P (evalV I env) S (.load 34 (.tmp 9))) (.inRegion o23_28 rest :: k) (some 28) env) ∧
  (regS P I next stop o23_28 3 rest k env S = callS P I stop (evalV I env (.tmp 26)) [evalV I env (.tmp 27), evalV I env (.tmp 28)] (.inRegion o23_28 rest :: k) (some 29) env S) ∧
  (regS P I next stop o23_28 4 rest k env S = bindS next (op1 P (evalV I env) S (.unOp .not 4 (.tmp 29))) (.inRegion o23_28 rest :: k) (some 30) env) ∧
  (regS P I next stop o23_31 0 rest k env S = bindS next (op1 P (evalV I env) S (.assign (.const (.bool false)))) (.inRegion o23_31 rest :: k) (some 6) env) ∧
  (regS P I next stop o23_34 0 rest k env S = bindS next (op1 P (evalV I env) S (.binOp .add 3 (.tmp 17) (.const (.int .i64 1)) 3)) (.inRegion o23_34 rest :: k) (some 31) env) ∧
  (regS P I next stop o23_34 1 rest k env S = bindS next (op1 P (evalV I env) S (.move (.tmp 31))) (.inRegion o23_34 rest :: k) (some 17) env) ∧
  (regS P I next stop o23_36 0 rest k env S = bindS next (op1 P (evalV I env) S (.assign (.const (.bool true)))) (.inRegion o23_36 rest :: k) (some 6) env) := by
  repeat' apply And.intro
  all_goals kernel_rfl
set_option linter.defProp false in
/-- All of these. -/
def c23 := And.intro @c23s (@c23r)
set_option maxHeartbeats 1000000 in
theorem equalFunc_Type (g : FuncId) (first caps : List V) (e : TyT → TyT → Bool) (a b : List TyT) (B : List (List V)) (T : List (Nat × Nat)) (hg : ∀ x ∈ a, ∀ y ∈ b, ∀ J, AFn Tryd.prog TabI g (first ++ [tyV x, tyV y] ++ caps) ⟨B ++ J, T⟩ (Same (.d (.bool (e x y))) ⟨B ++ J, T⟩)) :
    AFn Tryd.prog TabI 23 [.d (.sl (a.map tyD)), .d (.sl (b.map tyD)), .func g first caps] ⟨B, T⟩ (Same (.d (.bool (eqF e a b))) ⟨B, T⟩) := by
  obtain ⟨N, hn⟩ : ∃ N, B.length = N := ⟨_, rfl⟩
  refine AFn.bodyE (body := k23_0) 32 Tryd.func23 (by kernel_rfl) (by kernel_rfl) (by kernel_rfl) (Nat.le_of_ble_eq_true rfl) fun hsm => ?_
  simp only [smL, sm, exV, stV, tyV, caV, paV, suV, fuV, prV, Bool.and_eq_true, decide_eq_true_eq, and_true, true_and, List.length_map, ssD_length] at hsm
  refine ARun.go 8 ?_
  simp -implicitDefEqProofs only [awC, awN, Nat.reduceAdd, Nat.reduceSub, Nat.reduceLT, Nat.reduceLeDiff, Nat.reduceEqDiff, Int.reduceToNat, Int.reduceEq, Int.reduceLT, Int.reduceLE, Int.reduceNeg, Int.reduceAdd, Int.reduceSub, Nat.reduceBEq, awT, c23, tys, hn]
  refine ARun.fitE fun hfe => ?_
  have hfe2 := hfe 2
  simp only [envS_get, lk_cons, lk_nil, Nat.reduceBEq, Nat.reduceAdd, Nat.reduceSub, cond_true, cond_false, hn] at hfe2
  clear hfe
  by_cases hl : a.length = b.length
  case neg =>
    have hl' : decide ((a.length : Int) = (b.length : Int)) = false := decide_eq_false (by omega)
    refine ARun.go 200 ?_
    simp -implicitDefEqProofs only [awC, awN, Nat.reduceAdd, Nat.reduceSub, Nat.reduceLT, Nat.reduceLeDiff, Nat.reduceEqDiff, Int.reduceToNat, Int.reduceEq, Int.reduceLT, Int.reduceLE, Int.reduceNeg, Int.reduceAdd, Int.reduceSub, Nat.reduceBEq, awT, c23, tys, hl', hn]
    refine ARun.ret Tryd.func23 rfl (Left.none ?_)
    rw [eqF_len e a b hl]
    exact ⟨rfl, rfl⟩
  have hl' : decide ((a.length : Int) = (b.length : Int)) = true := decide_eq_true (by omega)
  refine ARun.go 30 ?_
  simp -implicitDefEqProofs only [awC, awN, Nat.reduceAdd, Nat.reduceSub, Nat.reduceLT, Nat.reduceLeDiff, Nat.reduceEqDiff, Int.reduceToNat, Int.reduceEq, Int.reduceLT, Int.reduceLE, Int.reduceNeg, Int.reduceAdd, Int.reduceSub, Nat.reduceBEq, awT, c23, tys, hl', hn]
  refine ARun.fits fun hf => ?_
  refine ARun.loopB (fun i : Nat => (envS 32 [(1, .d (.sl (b.map tyD))), (2, .func g first caps), (15, .d (.sl (a.map tyD))), (16, .d (.int .i64 a.length)), (17, .d (.int .i64 i))], ⟨B, T⟩)) (fun i => i ≤ a.length ∧ eqF e a b = eqF e (a.drop i) (b.drop i)) (fun i => a.length - i) 0 ⟨by omega, rfl⟩ ?_ rfl ?_
  · skip
    refine Agree.env _ ?_
    simp only [agree_cons, agree_nil, eq_self, and_self, true_and, and_true, Int.natCast_add, Int.natCast_one, Int.natCast_zero, envS_get, envS_eval, lk_cons, lk_nil, Nat.reduceBEq, Nat.reduceAdd, Nat.reduceSub, cond_true, cond_false, hn]
  rintro i ⟨h1, h2⟩ ih
  dsimp only at h1 h2 ih ⊢
  by_cases hlt : i < a.length
  · have hw := wrap_in ((i : Int) + 1) (by omega)
    have hltb : i < b.length := by omega
    have hga := List.getElem?_eq_getElem hlt
    have hgb := List.getElem?_eq_getElem hltb
    have hlt' : decide ((i : Int) < (a.length : Int)) = true := decide_eq_true (by omega)
    rw [eqF_step e a b i hlt hltb] at h2
    have hgx := hg a[i] (List.getElem_mem hlt) b[i] (List.getElem_mem hltb)
    obtain ⟨x, hx⟩ : ∃ x, a[i] = x := ⟨_, rfl⟩
    obtain ⟨y, hy⟩ : ∃ y, b[i] = y := ⟨_, rfl⟩
    rw [hx] at hga h2 hgx
    rw [hy] at hgb h2 hgx
    refine ARun.go 200 ?_
    simp -implicitDefEqProofs only [awC, awN, Nat.reduceAdd, Nat.reduceSub, Nat.reduceLT, Nat.reduceLeDiff, Nat.reduceEqDiff, Int.reduceToNat, Int.reduceEq, Int.reduceLT, Int.reduceLE, Int.reduceNeg, Int.reduceAdd, Int.reduceSub, Nat.reduceBEq, awT, c23, tys, hn, List.getElem?_map, hga, hgb, hlt', tyD_eq]
    refine callS_of (hgx _) ?_
    rintro _ _ ⟨rfl, rfl⟩
    refine ARun.go 200 ?_
    simp -implicitDefEqProofs only [awC, awN, Nat.reduceAdd, Nat.reduceSub, Nat.reduceLT, Nat.reduceLeDiff, Nat.reduceEqDiff, Int.reduceToNat, Int.reduceEq, Int.reduceLT, Int.reduceLE, Int.reduceNeg, Int.reduceAdd, Int.reduceSub, Nat.reduceBEq, awT, c23, tys, hn]
    cases he : e x y
    · simp -implicitDefEqProofs only [awC, awN, Nat.reduceAdd, Nat.reduceSub, Nat.reduceLT, Nat.reduceLeDiff, Nat.reduceEqDiff, Int.reduceToNat, Int.reduceEq, Int.reduceLT, Int.reduceLE, Int.reduceNeg, Int.reduceAdd, Int.reduceSub, Nat.reduceBEq, awT, c23, tys, hn, he]
      refine ARun.ret Tryd.func23 rfl (Left.box ?_)
      rw [h2, he]
      exact ⟨rfl, rfl⟩
    · simp -implicitDefEqProofs only [awC, awN, Nat.reduceAdd, Nat.reduceSub, Nat.reduceLT, Nat.reduceLeDiff, Nat.reduceEqDiff, Int.reduceToNat, Int.reduceEq, Int.reduceLT, Int.reduceLE, Int.reduceNeg, Int.reduceAdd, Int.reduceSub, Nat.reduceBEq, awT, c23, tys, hn, he, hw]
      rw [he, Bool.true_and] at h2
      refine ih (i + 1) ⟨hlt, h2⟩ (by omega) _ _ _ _ rfl ⟨by omega, Nat.le_refl _⟩ hf ?_
      refine AgreeF.env _ ?_
      simp only [agreeF_cons, agreeF_nil, fit, fitL, eq_self, and_self, true_and, and_true, Bool.and_true, Bool.true_and, Bool.and_self, decide_true, List.length_set, Int.natCast_add, Int.natCast_one, Int.natCast_zero, envS_get, envS_eval, lk_cons, lk_nil, Nat.reduceBEq, Nat.reduceAdd, Nat.reduceSub, cond_true, cond_false, hn]
      exact hfe2
  · have hlt' : decide ((i : Int) < (a.length : Int)) = false := decide_eq_false (by omega)
    refine ARun.go 200 ?_
    simp -implicitDefEqProofs only [awC, awN, Nat.reduceAdd, Nat.reduceSub, Nat.reduceLT, Nat.reduceLeDiff, Nat.reduceEqDiff, Int.reduceToNat, Int.reduceEq, Int.reduceLT, Int.reduceLE, Int.reduceNeg, Int.reduceAdd, Int.reduceSub, Nat.reduceBEq, awT, c23, tys, hn, hlt']
    refine ARun.ret Tryd.func23 rfl (Left.none ?_)
    rw [h2, eqF_end e a b i (by omega) (by omega)]
    exact ⟨rfl, rfl⟩

noncomputable def k31_0 : Code := bodyOf Tryd.f31
noncomputable def k31_1 : Code := lft k31_0
noncomputable def o31_1 : Array Oper := opsOf k31_1
noncomputable def k31_2 : Code := rgt k31_0
noncomputable def k31_3 : Code := lft k31_2
noncomputable def k31_4 : Code := lft k31_3
noncomputable def o31_4 : Array Oper := opsOf k31_4
noncomputable def k31_5 : Code := rgt k31_3
noncomputable def k31_6 : Code := lft k31_5
noncomputable def k31_7 : Code := lft k31_6
noncomputable def o31_7 : Array Oper := opsOf k31_7
noncomputable def k31_8 : Code := rgt k31_6
noncomputable def k31_9 : Code := rgt k31_5
noncomputable def k31_10 : Code := rgt k31_2
noncomputable def k31_11 : Code := lft k31_10
noncomputable def k31_12 : Code := lft k31_11
noncomputable def o31_12 : Array Oper := opsOf k31_12
noncomputable def k31_13 : Code := rgt k31_11
noncomputable def k31_14 : Code := lft k31_13
noncomputable def k31_15 : Code := lft k31_14
noncomputable def k31_16 : Code := lft k31_15
noncomputable def o31_16 : Array Oper := opsOf k31_16
noncomputable def k31_17 : Code := rgt k31_15
noncomputable def k31_18 : Code := lft k31_17
noncomputable def k31_19 : Code := lft k31_18
noncomputable def k31_20 : Code := rgt k31_18
noncomputable def k31_21 : Code := rgt k31_17
noncomputable def k31_22 : Code := lft k31_21
noncomputable def k31_23 : Code := lft k31_22
noncomputable def k31_24 : Code := lft k31_23
noncomputable def o31_24 : Array Oper := opsOf k31_24
noncomputable def k31_25 : Code := rgt k31_23
noncomputable def k31_26 : Code := lft k31_25
noncomputable def o31_26 : Array Oper := opsOf k31_26
noncomputable def k31_27 : Code := rgt k31_25
noncomputable def k31_28 : Code := lft k31_27
noncomputable def o31_28 : Array Oper := opsOf k31_28
noncomputable def k31_29 : Code := rgt k31_27
noncomputable def k31_30 : Code := lft k31_29
noncomputable def k31_31 : Code := lft k31_30
noncomputable def o31_31 : Array Oper := opsOf k31_31
noncomputable def k31_32 : Code := rgt k31_30
noncomputable def k31_33 : Code := rgt k31_29
noncomputable def k31_34 : Code := rgt k31_21
noncomputable def o31_34 : Array Oper := opsOf k31_34
noncomputable def k31_35 : Code := rgt k31_10
noncomputable def k31_36 : Code := lft k31_35
noncomputable def o31_36 : Array Oper := opsOf k31_36
noncomputable def k31_37 : Code := rgt k31_35
theorem c31s (I : Inv) (next stop : Cont) (k : List Item) (env : List V) (S : Mem) : (codeS I next stop k31_1 k env S = next (.inRegion o31_1 [0] :: k) env S) ∧
  (codeS I next stop k31_4 k env S = next (.inRegion o31_4 [0, 1, 2, 3, 4] :: k) env S) ∧
  (codeS I next stop k31_7 k env S = next (.inRegion o31_7 [0] :: k) env S) ∧
  (codeS I next stop k31_8 k env S = stop (.code .ret :: k) env S) ∧
  (codeS I next stop k31_6 k env S = next (.code k31_7 :: .code k31_8 :: k) env S) ∧
  (codeS I next stop k31_9 k env S = next k env S) ∧
  (codeS I next stop k31_5 k env S = condV next (evalV I env (.tmp 14)) k31_6 k31_9 k env S) ∧
  (codeS I next stop k31_3 k env S = next (.code k31_4 :: .code k31_5 :: k) env S) ∧
  (codeS I next stop k31_12 k env S = next (.inRegion o31_12 [0, 1, 2] :: k) env S) ∧
  (codeS I next stop k31_16 k env S = next (.inRegion o31_16 [0] :: k) env S) ∧
  (codeS I next stop k31_19 k env S = next k env S) ∧
  (codeS I next stop k31_20 k env S = exitV next (exitTo 0 k) env S) ∧
  (codeS I next stop k31_18 k env S = condV next (evalV I env (.tmp 18)) k31_19 k31_20 k env S) ∧
  (codeS I next stop k31_24 k env S = next (.inRegion o31_24 [0, 1, 2, 3, 4, 5] :: k) env S) ∧
  (codeS I next stop k31_26 k env S = next (.inRegion o31_26 [0, 1, 2, 3, 4, 5] :: k) env S) ∧
  (codeS I next stop k31_28 k env S = next (.inRegion o31_28 [0, 1, 2, 3, 4] :: k) env S) ∧
  (codeS I next stop k31_31 k env S = next (.inRegion o31_31 [0] :: k) env S) ∧
  (codeS I next stop k31_32 k env S = stop (.code .ret :: k) env S) ∧
  (codeS I next stop k31_30 k env S = next (.code k31_31 :: .code k31_32 :: k) env S) ∧
  (codeS I next stop k31_33 k env S = next k env S) ∧
  (codeS I next stop k31_29 k env S = condV next (evalV I env (.tmp 30)) k31_30 k31_33 k env S) ∧
  (codeS I next stop k31_27 k env S = next (.code k31_28 :: .code k31_29 :: k) env S) ∧
  (codeS I next stop k31_25 k env S = next (.code k31_26 :: .code k31_27 :: k) env S) ∧
  (codeS I next stop k31_23 k env S = next (.code k31_24 :: .code k31_25 :: k) env S) ∧
  (codeS I next stop k31_22 k env S = next (.code k31_23 :: .inBlock 1 :: k) env S) ∧
  (codeS I next stop k31_34 k env S = next (.inRegion o31_34 [0, 1] :: k) env S) ∧
  (codeS I next stop k31_21 k env S = next (.code k31_22 :: .code k31_34 :: k) env S) ∧
  (codeS I next stop k31_17 k env S = next (.code k31_18 :: .code k31_21 :: k) env S) ∧
  (codeS I next stop k31_15 k env S = next (.code k31_16 :: .code k31_17 :: k) env S) ∧
  (codeS I next stop k31_14 k env S = stop (.code (.loop k31_15) :: k) env S) ∧
  (codeS I next stop k31_13 k env S = next (.code k31_14 :: .inBlock 0 :: k) env S) ∧
  (codeS I next stop k31_11 k env S = next (.code k31_12 :: .code k31_13 :: k) env S) ∧
  (codeS I next stop k31_36 k env S = next (.inRegion o31_36 [0] :: k) env S) ∧
  (codeS I next stop k31_37 k env S = stop (.code .ret :: k) env S) ∧
  (codeS I next stop k31_35 k env S = next (.code k31_36 :: .code k31_37 :: k) env S) ∧
  (codeS I next stop k31_10 k env S = next (.code k31_11 :: .code k31_35 :: k) env S) ∧
  (codeS I next stop k31_2 k env S = next (.code k31_3 :: .code k31_10 :: k) env S) ∧
  (codeS I next stop k31_0 k env S = next (.code k31_1 :: .code k31_2 :: k) env S) := by
  repeat' apply And.intro
  all_goals kernel_rfl
theorem c31r (P : Program) (I : Inv) (next stop : Cont) (rest : List Nat) (k : List Item) (env : List V) (S : Mem) : (regS P I next stop o31_1 0 rest k env S = bindS next (op1 P (evalV I env) S (.assign (.const (.bool false)))) (.inRegion o31_1 rest :: k) (some 6) env) ∧
  (regS P I next stop o31_4 0 rest k env S = bindS next (op1 P (evalV I env) S (.move (.tmp 0))) (.inRegion o31_4 rest :: k) (some 10) env) ∧
  (regS P I next stop o31_4 1 rest k env S = bindS next (opCall P (evalV I env) S { callee := .builtin .len, args := #[.tmp 10], argTypes := #[36] }) (.inRegion o31_4 rest :: k) (some 11) env) ∧
  (regS P I next stop o31_4 2 rest k env S = bindS next (op1 P (evalV I env) S (.move (.tmp 1))) (.inRegion o31_4 rest :: k) (some 12) env) ∧
  (regS P I next stop o31_4 3 rest k env S = bindS next (opCall P (evalV I env) S { callee := .builtin .len, args := #[.tmp 12], argTypes := #[36] }) (.inRegion o31_4 rest :: k) (some 13) env) ∧
  (regS P I next stop o31_4 4 rest k env S = bindS next (op1 P (evalV I env) S (.binOp .neq 3 (.tmp 11) (.tmp 13) 3)) (.inRegion o31_4 rest :: k) (some 14) env) ∧
  (regS P I next stop o31_7 0 rest k env S = bindS next (op1 P (evalV I env) S (.assign (.const (.bool false)))) (.inRegion o31_7 rest :: k) (some 6) env) ∧
  (regS P I next stop o31_12 0 rest k env S = bindS next (op1 P (evalV I env) S (.move (.tmp 0))) (.inRegion o31_12 rest :: k) (some 15) env) ∧
  (regS P I next stop o31_12 1 rest k env S = bindS next (opCall P (evalV I env) S { callee := .builtin .len, args := #[.tmp 15], argTypes := #[36] }) (.inRegion o31_12 rest :: k) (some 16) env) ∧
  (regS P I next stop o31_12 2 rest k env S = bindS next (op1 P (evalV I env) S (.move (.const (.int .i64 0)))) (.inRegion o31_12 rest :: k) (some 17) env) ∧
  (regS P I next stop o31_16 0 rest k env S = bindS next (op1 P (evalV I env) S (.binOp .lss 3 (.tmp 17) (.tmp 16) 3)) (.inRegion o31_16 rest :: k) (some 18) env) ∧
  (regS P I next stop o31_24 0 rest k env S = bindS next (op1 P (evalV I env) S (.move (.tmp 17))) (.inRegion o31_24 rest :: k) (some 19) env) ∧
  (regS P I next stop o31_24 1 rest k env S = bindS next (op1 P (evalV I env) S (.indexAddr 36 (.tmp 15) (.tmp 17))) (.inRegion o31_24 rest :: k) (some 20) env) ∧
  (regS P I next stop o31_24 2 rest k env S = bindS next (op1 P (evalV I env) S (.load 38 (.tmp 20))) (.inRegion o31_24 rest :: k) (some 21) env) ∧
  (regS P I next stop o31_24 3 rest k env S = bindS next (op1 P (evalV I env) S (.alloc 38)) (.inRegion o31_24 rest :: k) (some 8) env) ∧
  (regS P I next stop o31_24 4 rest k env S = bindS next (op1 P (evalV I env) S (.assign (.tmp 19))) (.inRegion o31_24 rest :: k) (some 7) env) ∧
  (regS P I next stop o31_24 5 rest k env S = bindS next (op1 P (evalV I env) S (.store 38 (.tmp 8) (.tmp 21))) (.inRegion o31_24 rest :: k) none env) ∧
  (regS P I next stop o31_26 0 rest k env S = bindS next (op1 P (evalV I env) S (.move (.tmp 1))) (.inRegion o31_26 rest :: k) (some 22) env) ∧
  (regS P I next stop o31_26 1 rest k env S = bindS next (op1 P (evalV I env) S (.move (.tmp 7))) (.inRegion o31_26 rest :: k) (some 23) env) ∧
  (regS P I next stop o31_26 2 rest k env S = bindS next (op1 P (evalV I env) S (.indexAddr 36 (.tmp 22) (.tmp 23))) (.inRegion o31_26 rest :: k) (some 24) env) ∧
  (regS P I next stop o31_26 3 rest k env S = bindS next (op1 P (evalV I env) S (.load 38 (.tmp 24))) (.inRegion o31_26 rest :: k) (some 25) env) ∧
  (regS P I next stop o31_26 4 rest k env S = bindS next (op1 P (evalV I env) S (.alloc 38)) (.inRegion o31_26 rest :: k) (some 9) env) ∧
  (regS P I next stop o31_26 5 rest k env S = bindS next (op1 P (evalV I env) S (.store 38 (.tmp 9) (.tmp 25))) (.inRegion o31_26 rest :: k) none env) ∧
  (regS P I next stop o31_28 0 rest k env S = bindS next (op1 P (evalV I env) S (.move (.tmp 2))) (.inRegion o31_28 rest :: k) (some 26) env) ∧
  (regS P I next stop o31_28 1 rest k env S = bindS next (op1 P (evalV I env) S (.load 38 (.tmp 8))) (.inRegion o31_28 rest :: k) (some 27) env) ∧
  (regS P I next stop o31_28 2 rest k env S = bindS next (op1 P (evalV I env) S (.load 38 (.tmp 9))) (.inRegion o31_28 rest :: k) (some 28) env) ∧
  (regS P I next stop o31_28 3 rest k env S = callS P I stop (evalV I env (.tmp 26)) [evalV I env (.tmp 27), evalV I env (.tmp 28)] (.inRegion o31_28 rest :: k) (some 29) env S) ∧
  (regS P I next stop o31_28 4 rest k env S = bindS next (op1 P (evalV I env) S (.unOp .not 4 (.tmp 29))) (.inRegion o31_28 rest :: k) (some 30) env) ∧
  (regS P I next stop o31_31 0 rest k env S = bindS next (op1 P (evalV I env) S (.assign (.const (.bool false)))) (.inRegion o31_31 rest :: k) (some 6) env) ∧
  (regS P I next stop o31_34 0 rest k env S = bindS next (op1 P (evalV I env) S (.binOp .add 3 (.tmp 17) (.const (.int .i64 1)) 3)) (.inRegion o31_34 rest :: k) (some 31) env) ∧
  (regS P I next stop o31_34 1 rest k env S = bindS next (op1 P (evalV I env) S (.move (.tmp 31))) (.inRegion o31_34 rest :: k) (some 17) env) ∧
  (regS P I next stop o31_36 0 rest k env S = bindS next (op1 P (evalV I env) S (.assign (.const (.bool true)))) (.inRegion o31_36 rest :: k) (some 6) env) := by
  repeat' apply And.intro
  all_goals kernel_rfl
set_option linter.defProp false in
/-- All of these. -/
def c31 := And.intro @c31s (@c31r)
set_option maxHeartbeats 1000000 in
theorem equalFunc_Expr (g : FuncId) (first caps : List V) (e : ExT → ExT → Bool) (a b : List ExT) (B : List (List V)) (T : List (Nat × Nat)) (hg : ∀ x ∈ a, ∀ y ∈ b, ∀ J, AFn Tryd.prog TabI g (first ++ [exV x, exV y] ++ caps) ⟨B ++ J, T⟩ (Same (.d (.bool (e x y))) ⟨B ++ J, T⟩)) :
    AFn Tryd.prog TabI 31 [.d (.sl (a.map exD)), .d (.sl (b.map exD)), .func g first caps] ⟨B, T⟩ (Same (.d (.bool (eqF e a b))) ⟨B, T⟩) := by
  obtain ⟨N, hn⟩ : ∃ N, B.length = N := ⟨_, rfl⟩
  refine AFn.bodyE (body := k31_0) 32 Tryd.func31 (by kernel_rfl) (by kernel_rfl) (by kernel_rfl) (Nat.le_of_ble_eq_true rfl) fun hsm => ?_
  simp only [smL, sm, exV, stV, tyV, caV, paV, suV, fuV, prV, Bool.and_eq_true, decide_eq_true_eq, and_true, true_and, List.length_map, ssD_length] at hsm
  refine ARun.go 8 ?_
  simp -implicitDefEqProofs only [awC, awN, Nat.reduceAdd, Nat.reduceSub, Nat.reduceLT, Nat.reduceLeDiff, Nat.reduceEqDiff, Int.reduceToNat, Int.reduceEq, Int.reduceLT, Int.reduceLE, Int.reduceNeg, Int.reduceAdd, Int.reduceSub, Nat.reduceBEq, awT, c31, tys, hn]
  refine ARun.fitE fun hfe => ?_
  have hfe2 := hfe 2
  simp only [envS_get, lk_cons, lk_nil, Nat.reduceBEq, Nat.reduceAdd, Nat.reduceSub, cond_true, cond_false, hn] at hfe2
  clear hfe
  by_cases hl : a.length = b.length
  case neg =>
    have hl' : decide ((a.length : Int) = (b.length : Int)) = false := decide_eq_false (by omega)
    refine ARun.go 200 ?_
    simp -implicitDefEqProofs only [awC, awN, Nat.reduceAdd, Nat.reduceSub, Nat.reduceLT, Nat.reduceLeDiff, Nat.reduceEqDiff, Int.reduceToNat, Int.reduceEq, Int.reduceLT, Int.reduceLE, Int.reduceNeg, Int.reduceAdd, Int.reduceSub, Nat.reduceBEq, awT, c31, tys, hl', hn]
    refine ARun.ret Tryd.func31 rfl (Left.none ?_)
    rw [eqF_len e a b hl]
    exact ⟨rfl, rfl⟩
  have hl' : decide ((a.length : Int) = (b.length : Int)) = true := decide_eq_true (by omega)
  refine ARun.go 30 ?_
  simp -implicitDefEqProofs only [awC, awN, Nat.reduceAdd, Nat.reduceSub, Nat.reduceLT, Nat.reduceLeDiff, Nat.reduceEqDiff, Int.reduceToNat, Int.reduceEq, Int.reduceLT, Int.reduceLE, Int.reduceNeg, Int.reduceAdd, Int.reduceSub, Nat.reduceBEq, awT, c31, tys, hl', hn]
  refine ARun.fits fun hf => ?_
  refine ARun.loopB (fun i : Nat => (envS 32 [(1, .d (.sl (b.map exD))), (2, .func g first caps), (15, .d (.sl (a.map exD))), (16, .d (.int .i64 a.length)), (17, .d (.int .i64 i))], ⟨B, T⟩)) (fun i => i ≤ a.length ∧ eqF e a b = eqF e (a.drop i) (b.drop i)) (fun i => a.length - i) 0 ⟨by omega, rfl⟩ ?_ rfl ?_
  · skip
    refine Agree.env _ ?_
    simp only [agree_cons, agree_nil, eq_self, and_self, true_and, and_true, Int.natCast_add, Int.natCast_one, Int.natCast_zero, envS_get, envS_eval, lk_cons, lk_nil, Nat.reduceBEq, Nat.reduceAdd, Nat.reduceSub, cond_true, cond_false, hn]
  rintro i ⟨h1, h2⟩ ih
  dsimp only at h1 h2 ih ⊢
  by_cases hlt : i < a.length
  · have hw := wrap_in ((i : Int) + 1) (by omega)
    have hltb : i < b.length := by omega
    have hga := List.getElem?_eq_getElem hlt
    have hgb := List.getElem?_eq_getElem hltb
    have hlt' : decide ((i : Int) < (a.length : Int)) = true := decide_eq_true (by omega)
    rw [eqF_step e a b i hlt hltb] at h2
    have hgx := hg a[i] (List.getElem_mem hlt) b[i] (List.getElem_mem hltb)
    obtain ⟨x, hx⟩ : ∃ x, a[i] = x := ⟨_, rfl⟩
    obtain ⟨y, hy⟩ : ∃ y, b[i] = y := ⟨_, rfl⟩
    rw [hx] at hga h2 hgx
    rw [hy] at hgb h2 hgx
    refine ARun.go 200 ?_
    simp -implicitDefEqProofs only [awC, awN, Nat.reduceAdd, Nat.reduceSub, Nat.reduceLT, Nat.reduceLeDiff, Nat.reduceEqDiff, Int.reduceToNat, Int.reduceEq, Int.reduceLT, Int.reduceLE, Int.reduceNeg, Int.reduceAdd, Int.reduceSub, Nat.reduceBEq, awT, c31, tys, hn, List.getElem?_map, hga, hgb, hlt', exD_eq]
    refine callS_of (hgx _) ?_
    rintro _ _ ⟨rfl, rfl⟩
    refine ARun.go 200 ?_
    simp -implicitDefEqProofs only [awC, awN, Nat.reduceAdd, Nat.reduceSub, Nat.reduceLT, Nat.reduceLeDiff, Nat.reduceEqDiff, Int.reduceToNat, Int.reduceEq, Int.reduceLT, Int.reduceLE, Int.reduceNeg, Int.reduceAdd, Int.reduceSub, Nat.reduceBEq, awT, c31, tys, hn]
    cases he : e x y
    · simp -implicitDefEqProofs only [awC, awN, Nat.reduceAdd, Nat.reduceSub, Nat.reduceLT, Nat.reduceLeDiff, Nat.reduceEqDiff, Int.reduceToNat, Int.reduceEq, Int.reduceLT, Int.reduceLE, Int.reduceNeg, Int.reduceAdd, Int.reduceSub, Nat.reduceBEq, awT, c31, tys, hn, he]
      refine ARun.ret Tryd.func31 rfl (Left.box ?_)
      rw [h2, he]
      exact ⟨rfl, rfl⟩
    · simp -implicitDefEqProofs only [awC, awN, Nat.reduceAdd, Nat.reduceSub, Nat.reduceLT, Nat.reduceLeDiff, Nat.reduceEqDiff, Int.reduceToNat, Int.reduceEq, Int.reduceLT, Int.reduceLE, Int.reduceNeg, Int.reduceAdd, Int.reduceSub, Nat.reduceBEq, awT, c31, tys, hn, he, hw]
      rw [he, Bool.true_and] at h2
      refine ih (i + 1) ⟨hlt, h2⟩ (by omega) _ _ _ _ rfl ⟨by omega, Nat.le_refl _⟩ hf ?_
      refine AgreeF.env _ ?_
      simp only [agreeF_cons, agreeF_nil, fit, fitL, eq_self, and_self, true_and, and_true, Bool.and_true, Bool.true_and, Bool.and_self, decide_true, List.length_set, Int.natCast_add, Int.natCast_one, Int.natCast_zero, envS_get, envS_eval, lk_cons, lk_nil, Nat.reduceBEq, Nat.reduceAdd, Nat.reduceSub, cond_true, cond_false, hn]
      exact hfe2
  · have hlt' : decide ((i : Int) < (a.length : Int)) = false := decide_eq_false (by omega)
    refine ARun.go 200 ?_
    simp -implicitDefEqProofs only [awC, awN, Nat.reduceAdd, Nat.reduceSub, Nat.reduceLT, Nat.reduceLeDiff, Nat.reduceEqDiff, Int.reduceToNat, Int.reduceEq, Int.reduceLT, Int.reduceLE, Int.reduceNeg, Int.reduceAdd, Int.reduceSub, Nat.reduceBEq, awT, c31, tys, hn, hlt']
    refine ARun.ret Tryd.func31 rfl (Left.none ?_)
    rw [h2, eqF_end e a b i (by omega) (by omega)]
    exact ⟨rfl, rfl⟩

noncomputable def k24_0 : Code := bodyOf Tryd.f24
noncomputable def k24_1 : Code := lft k24_0
noncomputable def o24_1 : Array Oper := opsOf k24_1
noncomputable def k24_2 : Code := rgt k24_0
noncomputable def k24_3 : Code := lft k24_2
noncomputable def k24_4 : Code := lft k24_3
noncomputable def o24_4 : Array Oper := opsOf k24_4
noncomputable def k24_5 : Code := rgt k24_3
noncomputable def k24_6 : Code := lft k24_5
noncomputable def k24_7 : Code := lft k24_6
noncomputable def o24_7 : Array Oper := opsOf k24_7
noncomputable def k24_8 : Code := rgt k24_6
noncomputable def k24_9 : Code := rgt k24_5
noncomputable def k24_10 : Code := rgt k24_2
noncomputable def k24_11 : Code := lft k24_10
noncomputable def k24_12 : Code := lft k24_11
noncomputable def o24_12 : Array Oper := opsOf k24_12
noncomputable def k24_13 : Code := rgt k24_11
noncomputable def k24_14 : Code := lft k24_13
noncomputable def k24_15 : Code := lft k24_14
noncomputable def k24_16 : Code := lft k24_15
noncomputable def o24_16 : Array Oper := opsOf k24_16
noncomputable def k24_17 : Code := rgt k24_15
noncomputable def k24_18 : Code := lft k24_17
noncomputable def k24_19 : Code := lft k24_18
noncomputable def k24_20 : Code := rgt k24_18
noncomputable def k24_21 : Code := rgt k24_17
noncomputable def k24_22 : Code := lft k24_21
noncomputable def k24_23 : Code := lft k24_22
noncomputable def k24_24 : Code := lft k24_23
noncomputable def o24_24 : Array Oper := opsOf k24_24
noncomputable def k24_25 : Code := rgt k24_23
noncomputable def k24_26 : Code := lft k24_25
noncomputable def o24_26 : Array Oper := opsOf k24_26
noncomputable def k24_27 : Code := rgt k24_25
noncomputable def k24_28 : Code := lft k24_27
noncomputable def o24_28 : Array Oper := opsOf k24_28
noncomputable def k24_29 : Code := rgt k24_27
noncomputable def k24_30 : Code := lft k24_29
noncomputable def k24_31 : Code := lft k24_30
noncomputable def o24_31 : Array Oper := opsOf k24_31
noncomputable def k24_32 : Code := rgt k24_30
noncomputable def k24_33 : Code := rgt k24_29
noncomputable def k24_34 : Code := rgt k24_21
noncomputable def o24_34 : Array Oper := opsOf k24_34
noncomputable def k24_35 : Code := rgt k24_10
noncomputable def k24_36 : Code := lft k24_35
noncomputable def o24_36 : Array Oper := opsOf k24_36
noncomputable def k24_37 : Code := rgt k24_35
theorem c24s (I : Inv) (next stop : Cont) (k : List Item) (env : List V) (S : Mem) : (codeS I next stop k24_1 k env S = next (.inRegion o24_1 [0] :: k) env S) ∧
  (codeS I next stop k24_4 k env S = next (.inRegion o24_4 [0, 1, 2, 3, 4] :: k) env S) ∧
  (codeS I next stop k24_7 k env S = next (.inRegion o24_7 [0] :: k) env S) ∧
  (codeS I next stop k24_8 k env S = stop (.code .ret :: k) env S) ∧
  (codeS I next stop k24_6 k env S = next (.code k24_7 :: .code k24_8 :: k) env S) ∧
  (codeS I next stop k24_9 k env S = next k env S) ∧
  (codeS I next stop k24_5 k env S = condV next (evalV I env (.tmp 14)) k24_6 k24_9 k env S) ∧
  (codeS I next stop k24_3 k env S = next (.code k24_4 :: .code k24_5 :: k) env S) ∧
  (codeS I next stop k24_12 k env S = next (.inRegion o24_12 [0, 1, 2] :: k) env S) ∧
  (codeS I next stop k24_16 k env S = next (.inRegion o24_16 [0] :: k) env S) ∧
  (codeS I next stop k24_19 k env S = next k env S) ∧
  (codeS I next stop k24_20 k env S = exitV next (exitTo 0 k) env S) ∧
  (codeS I next stop k24_18 k env S = condV next (evalV I env (.tmp 18)) k24_19 k24_20 k env S) ∧
  (codeS I next stop k24_24 k env S = next (.inRegion o24_24 [0, 1, 2, 3, 4, 5] :: k) env S) ∧
  (codeS I next stop k24_26 k env S = next (.inRegion o24_26 [0, 1, 2, 3, 4, 5] :: k) env S) ∧
  (codeS I next stop k24_28 k env S = next (.inRegion o24_28 [0, 1, 2, 3, 4] :: k) env S) ∧
  (codeS I next stop k24_31 k env S = next (.inRegion o24_31 [0] :: k) env S) ∧
  (codeS I next stop k24_32 k env S = stop (.code .ret :: k) env S) ∧
  (codeS I next stop k24_30 k env S = next (.code k24_31 :: .code k24_32 :: k) env S) ∧
  (codeS I next stop k24_33 k env S = next k env S) ∧
  (codeS I next stop k24_29 k env S = condV next (evalV I env (.tmp 30)) k24_30 k24_33 k env S) ∧
  (codeS I next stop k24_27 k env S = next (.code k24_28 :: .code k24_29 :: k) env S) ∧
  (codeS I next stop k24_25 k env S = next (.code k24_26 :: .code k24_27 :: k) env S) ∧
  (codeS I next stop k24_23 k env S = next (.code k24_24 :: .code k24_25 :: k) env S) ∧
  (codeS I next stop k24_22 k env S = next (.code k24_23 :: .inBlock 1 :: k) env S) ∧
  (codeS I next stop k24_34 k env S = next (.inRegion o24_34 [0, 1] :: k) env S) ∧
  (codeS I next stop k24_21 k env S = next (.code k24_22 :: .code k24_34 :: k) env S) ∧
  (codeS I next stop k24_17 k env S = next (.code k24_18 :: .code k24_21 :: k) env S) ∧
  (codeS I next stop k24_15 k env S = next (.code k24_16 :: .code k24_17 :: k) env S) ∧
  (codeS I next stop k24_14 k env S = stop (.code (.loop k24_15) :: k) env S) ∧
  (codeS I next stop k24_13 k env S = next (.code k24_14 :: .inBlock 0 :: k) env S) ∧
  (codeS I next stop k24_11 k env S = next (.code k24_12 :: .code k24_13 :: k) env S) ∧
  (codeS I next stop k24_36 k env S = next (.inRegion o24_36 [0] :: k) env S) ∧
  (codeS I next stop k24_37 k env S = stop (.code .ret :: k) env S) ∧
  (codeS I next stop k24_35 k env S = next (.code k24_36 :: .code k24_37 :: k) env S) ∧
  (codeS I next stop k24_10 k env S = next (.code k24_11 :: .code k24_35 :: k) env S) ∧
  (codeS I next stop k24_2 k env S = next (.code k24_3 :: .code k24_10 :: k) env S) ∧
  (codeS I next stop k24_0 k env S = next (.code k24_1 :: .code k24_2 :: k) env S) := by
  repeat' apply And.intro
  all_goals kernel_rfl
theorem c24r (P : Program) (I : Inv) (next stop : Cont) (rest : List Nat) (k : List Item) (env : List V) (S : Mem) : (regS P I next stop o24_1 0 rest k env S = bindS next (op1 P (evalV I env) S (.assign (.const (.bool false)))) (.inRegion o24_1 rest :: k) (some 6) env) ∧
  (regS P I next stop o24_4 0 rest k env S = bindS next (op1 P (evalV I env) S (.move (.tmp 0))) (.inRegion o24_4 rest :: k) (some 10) env) ∧
  (regS P I next stop o24_4 1 rest k env S = bindS next (opCall P (evalV I env) S { callee := .builtin .len, args := #[.tmp 10], argTypes := #[54] }) (.inRegion o24_4 rest :: k) (some 11) env) ∧
  (regS P I next stop o24_4 2 rest k env S = bindS next (op1 P (evalV I env) S (.move (.tmp 1))) (.inRegion o24_4 rest :: k) (some 12) env) ∧
  (regS P I next stop o24_4 3 rest k env S = bindS next (opCall P (evalV I env) S { callee := .builtin .len, args := #[.tmp 12], argTypes := #[54] }) (.inRegion o24_4 rest :: k) (some 13) env) ∧
  (regS P I next stop o24_4 4 rest k env S = bindS next (op1 P (evalV I env) S (.binOp .neq 3 (.tmp 11) (.tmp 13) 3)) (.inRegion o24_4 rest :: k) (some 14) env) ∧
  (regS P I next stop o24_7 0 rest k env S = bindS next (op1 P (evalV I env) S (.assign (.const (.bool false)))) (.inRegion o24_7 rest :: k) (some 6) env) ∧
  (regS P I next stop o24_12 0 rest k env S = bindS next (op1 P (evalV I env) S (.move (.tmp 0))) (.inRegion o24_12 rest :: k) (some 15) env) ∧
  (regS P I next stop o24_12 1 rest k env S = bindS next (opCall P (evalV I env) S { callee := .builtin .len, args := #[.tmp 15], argTypes := #[54] }) (.inRegion o24_12 rest :: k) (some 16) env) ∧
  (regS P I next stop o24_12 2 rest k env S = bindS next (op1 P (evalV I env) S (.move (.const (.int .i64 0)))) (.inRegion o24_12 rest :: k) (some 17) env) ∧
  (regS P I next stop o24_16 0 rest k env S = bindS next (op1 P (evalV I env) S (.binOp .lss 3 (.tmp 17) (.tmp 16) 3)) (.inRegion o24_16 rest :: k) (some 18) env) ∧
  (regS P I next stop o24_24 0 rest k env S = bindS next (op1 P (evalV I env) S (.move (.tmp 17))) (.inRegion o24_24 rest :: k) (some 19) env) ∧
  (regS P I next stop o24_24 1 rest k env S = bindS next (op1 P (evalV I env) S (.indexAddr 54 (.tmp 15) (.tmp 17))) (.inRegion o24_24 rest :: k) (some 20) env) ∧
  (regS P I next stop o24_24 2 rest k env S = bindS next (op1 P (evalV I env) S (.load 69 (.tmp 20))) (.inRegion o24_24 rest :: k) (some 21) env) ∧
  (regS P I next stop o24_24 3 rest k env S = bindS next (op1 P (evalV I env) S (.alloc 69)) (.inRegion o24_24 rest :: k) (some 8) env) ∧
  (regS P I next stop o24_24 4 rest k env S = bindS next (op1 P (evalV I env) S (.assign (.tmp 19))) (.inRegion o24_24 rest :: k) (some 7) env) ∧
  (regS P I next stop o24_24 5 rest k env S = bindS next (op1 P (evalV I env) S (.store 69 (.tmp 8) (.tmp 21))) (.inRegion o24_24 rest :: k) none env) ∧
  (regS P I next stop o24_26 0 rest k env S = bindS next (op1 P (evalV I env) S (.move (.tmp 1))) (.inRegion o24_26 rest :: k) (some 22) env) ∧
  (regS P I next stop o24_26 1 rest k env S = bindS next (op1 P (evalV I env) S (.move (.tmp 7))) (.inRegion o24_26 rest :: k) (some 23) env) ∧
  (regS P I next stop o24_26 2 rest k env S = bindS next (op1 P (evalV I env) S (.indexAddr 54 (.tmp 22) (.tmp 23))) (.inRegion o24_26 rest :: k) (some 24) env) ∧
  (regS P I next stop o24_26 3 rest k env S = bindS next (op1 P (evalV I env) S (.load 69 (.tmp 24))) (.inRegion o24_26 rest :: k) (some 25) env) ∧
  (regS P I next stop o24_26 4 rest k env S = bindS next (op1 P (evalV I env) S (.alloc 69)) (.inRegion o24_26 rest :: k) (some 9) env) ∧
  (regS P I next stop o24_26 5 rest k env S = bindS next (op1 P (evalV I env) S (.store 69 (.tmp 9) (.tmp 25))) (.inRegion o24_26 rest :: k) none env) ∧
  (regS P I next stop o24_28 0 rest k env S = bindS next (op1 P (evalV I env) S (.move (.tmp 2))) (.inRegion o24_28 rest :: k) (some 26) env) ∧
  (regS P I next stop o24_28 1 rest k env S = bindS next (op1 P (evalV I env) S (.load 69 (.tmp 8))) (.inRegion o24_28 rest :: k) (some 27) env) ∧
  (regS P I next stop o24_28 2 rest k env S = bindS next (op1 P (evalV I env) S (.load 69 (.tmp 9))) (.inRegion o24_28 rest :: k) (some 28) env) ∧
  (regS P I next stop o24_28 3 rest k env S = callS P I stop (evalV I env (.tmp 26)) [evalV I env (.tmp 27), evalV I env (.tmp 28)] (.inRegion o24_28 rest :: k) (some 29) env S) ∧
  (regS P I next stop o24_28 4 rest k env S = bindS next (op1 P (evalV I env) S (.unOp .not 4 (.tmp 29))) (.inRegion o24_28 rest :: k) (some 30) env) ∧
  (regS P I next stop o24_31 0 rest k env S = bindS next (op1 P (evalV I env) S (.assign (.const (.bool false)))) (.inRegion o24_31 rest :: k) (some 6) env) ∧
  (regS P I next stop o24_34 0 rest k env S = bindS next (op1 P (evalV I env) S (.binOp .add 3 (.tmp 17) (.const (.int .i64 1)) 3)) (.inRegion o24_34 rest :: k) (some 31) env) ∧
  (regS P I next stop o24_34 1 rest k env S = bindS next (op1 P (evalV I env) S (.move (.tmp 31))) (.inRegion o24_34 rest :: k) (some 17) env) ∧
  (regS P I next stop o24_36 0 rest k env S = bindS next (op1 P (evalV I env) S (.assign (.const (.bool true)))) (.inRegion o24_36 rest :: k) (some 6) env) := by
  repeat' apply And.intro
  all_goals kernel_rfl
set_option linter.defProp false in
/-- All of these. -/
def c24 := And.intro @c24s (@c24r)
set_option maxHeartbeats 1000000 in
theorem equalFunc_Stmt (g : FuncId) (first caps : List V) (e : StT → StT → Bool) (a b : List StT) (B : List (List V)) (T : List (Nat × Nat)) (hg : ∀ x ∈ a, ∀ y ∈ b, ∀ J, AFn Tryd.prog TabI g (first ++ [stV x, stV y] ++ caps) ⟨B ++ J, T⟩ (Same (.d (.bool (e x y))) ⟨B ++ J, T⟩)) :
    AFn Tryd.prog TabI 24 [.d (.sl (a.map stD)), .d (.sl (b.map stD)), .func g first caps] ⟨B, T⟩ (Same (.d (.bool (eqF e a b))) ⟨B, T⟩) := by
  obtain ⟨N, hn⟩ : ∃ N, B.length = N := ⟨_, rfl⟩
  refine AFn.bodyE (body := k24_0) 32 Tryd.func24 (by kernel_rfl) (by kernel_rfl) (by kernel_rfl) (Nat.le_of_ble_eq_true rfl) fun hsm => ?_
  simp only [smL, sm, exV, stV, tyV, caV, paV, suV, fuV, prV, Bool.and_eq_true, decide_eq_true_eq, and_true, true_and, List.length_map, ssD_length] at hsm
  refine ARun.go 8 ?_
  simp -implicitDefEqProofs only [awC, awN, Nat.reduceAdd, Nat.reduceSub, Nat.reduceLT, Nat.reduceLeDiff, Nat.reduceEqDiff, Int.reduceToNat, Int.reduceEq, Int.reduceLT, Int.reduceLE, Int.reduceNeg, Int.reduceAdd, Int.reduceSub, Nat.reduceBEq, awT, c24, tys, hn]
  refine ARun.fitE fun hfe => ?_
  have hfe2 := hfe 2
  simp only [envS_get, lk_cons, lk_nil, Nat.reduceBEq, Nat.reduceAdd, Nat.reduceSub, cond_true, cond_false, hn] at hfe2
  clear hfe
  by_cases hl : a.length = b.length
  case neg =>
    have hl' : decide ((a.length : Int) = (b.length : Int)) = false := decide_eq_false (by omega)
    refine ARun.go 200 ?_
    simp -implicitDefEqProofs only [awC, awN, Nat.reduceAdd, Nat.reduceSub, Nat.reduceLT, Nat.reduceLeDiff, Nat.reduceEqDiff, Int.reduceToNat, Int.reduceEq, Int.reduceLT, Int.reduceLE, Int.reduceNeg, Int.reduceAdd, Int.reduceSub, Nat.reduceBEq, awT, c24, tys, hl', hn]
    refine ARun.ret Tryd.func24 rfl (Left.none ?_)
    rw [eqF_len e a b hl]
    exact ⟨rfl, rfl⟩
  have hl' : decide ((a.length : Int) = (b.length : Int)) = true := decide_eq_true (by omega)
  refine ARun.go 30 ?_
  simp -implicitDefEqProofs only [awC, awN, Nat.reduceAdd, Nat.reduceSub, Nat.reduceLT, Nat.reduceLeDiff, Nat.reduceEqDiff, Int.reduceToNat, Int.reduceEq, Int.reduceLT, Int.reduceLE, Int.reduceNeg, Int.reduceAdd, Int.reduceSub, Nat.reduceBEq, awT, c24, tys, hl', hn]
  refine ARun.fits fun hf => ?_
  refine ARun.loopB (fun i : Nat => (envS 32 [(1, .d (.sl (b.map stD))), (2, .func g first caps), (15, .d (.sl (a.map stD))), (16, .d (.int .i64 a.length)), (17, .d (.int .i64 i))], ⟨B, T⟩)) (fun i => i ≤ a.length ∧ eqF e a b = eqF e (a.drop i) (b.drop i)) (fun i => a.length - i) 0 ⟨by omega, rfl⟩ ?_ rfl ?_
  · skip
    refine Agree.env _ ?_
    simp only [agree_cons, agree_nil, eq_self, and_self, true_and, and_true, Int.natCast_add, Int.natCast_one, Int.natCast_zero, envS_get, envS_eval, lk_cons, lk_nil, Nat.reduceBEq, Nat.reduceAdd, Nat.reduceSub, cond_true, cond_false, hn]
  rintro i ⟨h1, h2⟩ ih
  dsimp only at h1 h2 ih ⊢
  by_cases hlt : i < a.length
  · have hw := wrap_in ((i : Int) + 1) (by omega)
    have hltb : i < b.length := by omega
    have hga := List.getElem?_eq_getElem hlt
    have hgb := List.getElem?_eq_getElem hltb
    have hlt' : decide ((i : Int) < (a.length : Int)) = true := decide_eq_true (by omega)
    rw [eqF_step e a b i hlt hltb] at h2
    have hgx := hg a[i] (List.getElem_mem hlt) b[i] (List.getElem_mem hltb)
    obtain ⟨x, hx⟩ : ∃ x, a[i] = x := ⟨_, rfl⟩
    obtain ⟨y, hy⟩ : ∃ y, b[i] = y := ⟨_, rfl⟩
    rw [hx] at hga h2 hgx
    rw [hy] at hgb h2 hgx
    refine ARun.go 200 ?_
    simp -implicitDefEqProofs only [awC, awN, Nat.reduceAdd, Nat.reduceSub, Nat.reduceLT, Nat.reduceLeDiff, Nat.reduceEqDiff, Int.reduceToNat, Int.reduceEq, Int.reduceLT, Int.reduceLE, Int.reduceNeg, Int.reduceAdd, Int.reduceSub, Nat.reduceBEq, awT, c24, tys, hn, List.getElem?_map, hga, hgb, hlt', stD_eq]
    refine callS_of (hgx _) ?_
    rintro _ _ ⟨rfl, rfl⟩
    refine ARun.go 200 ?_
    simp -implicitDefEqProofs only [awC, awN, Nat.reduceAdd, Nat.reduceSub, Nat.reduceLT, Nat.reduceLeDiff, Nat.reduceEqDiff, Int.reduceToNat, Int.reduceEq, Int.reduceLT, Int.reduceLE, Int.reduceNeg, Int.reduceAdd, Int.reduceSub, Nat.reduceBEq, awT, c24, tys, hn]
    cases he : e x y
    · simp -implicitDefEqProofs only [awC, awN, Nat.reduceAdd, Nat.reduceSub, Nat.reduceLT, Nat.reduceLeDiff, Nat.reduceEqDiff, Int.reduceToNat, Int.reduceEq, Int.reduceLT, Int.reduceLE, Int.reduceNeg, Int.reduceAdd, Int.reduceSub, Nat.reduceBEq, awT, c24, tys, hn, he]
      refine ARun.ret Tryd.func24 rfl (Left.box ?_)
      rw [h2, he]
      exact ⟨rfl, rfl⟩
    · simp -implicitDefEqProofs only [awC, awN, Nat.reduceAdd, Nat.reduceSub, Nat.reduceLT, Nat.reduceLeDiff, Nat.reduceEqDiff, Int.reduceToNat, Int.reduceEq, Int.reduceLT, Int.reduceLE, Int.reduceNeg, Int.reduceAdd, Int.reduceSub, Nat.reduceBEq, awT, c24, tys, hn, he, hw]
      rw [he, Bool.true_and] at h2
      refine ih (i + 1) ⟨hlt, h2⟩ (by omega) _ _ _ _ rfl ⟨by omega, Nat.le_refl _⟩ hf ?_
      refine AgreeF.env _ ?_
      simp only [agreeF_cons, agreeF_nil, fit, fitL, eq_self, and_self, true_and, and_true, Bool.and_true, Bool.true_and, Bool.and_self, decide_true, List.length_set, Int.natCast_add, Int.natCast_one, Int.natCast_zero, envS_get, envS_eval, lk_cons, lk_nil, Nat.reduceBEq, Nat.reduceAdd, Nat.reduceSub, cond_true, cond_false, hn]
      exact hfe2
  · have hlt' : decide ((i : Int) < (a.length : Int)) = false := decide_eq_false (by omega)
    refine ARun.go 200 ?_
    simp -implicitDefEqProofs only [awC, awN, Nat.reduceAdd, Nat.reduceSub, Nat.reduceLT, Nat.reduceLeDiff, Nat.reduceEqDiff, Int.reduceToNat, Int.reduceEq, Int.reduceLT, Int.reduceLE, Int.reduceNeg, Int.reduceAdd, Int.reduceSub, Nat.reduceBEq, awT, c24, tys, hn, hlt']
    refine ARun.ret Tryd.func24 rfl (Left.none ?_)
    rw [h2, eqF_end e a b i (by omega) (by omega)]
    exact ⟨rfl, rfl⟩

noncomputable def k44_0 : Code := bodyOf Tryd.f44
noncomputable def k44_1 : Code := lft k44_0
noncomputable def o44_1 : Array Oper := opsOf k44_1
noncomputable def k44_2 : Code := rgt k44_0
noncomputable def k44_3 : Code := lft k44_2
noncomputable def k44_4 : Code := lft k44_3
noncomputable def o44_4 : Array Oper := opsOf k44_4
noncomputable def k44_5 : Code := rgt k44_3
noncomputable def k44_6 : Code := lft k44_5
noncomputable def k44_7 : Code := lft k44_6
noncomputable def o44_7 : Array Oper := opsOf k44_7
noncomputable def k44_8 : Code := rgt k44_6
noncomputable def k44_9 : Code := rgt k44_5
noncomputable def k44_10 : Code := rgt k44_2
noncomputable def k44_11 : Code := lft k44_10
noncomputable def k44_12 : Code := lft k44_11
noncomputable def o44_12 : Array Oper := opsOf k44_12
noncomputable def k44_13 : Code := rgt k44_11
noncomputable def k44_14 : Code := lft k44_13
noncomputable def k44_15 : Code := lft k44_14
noncomputable def k44_16 : Code := lft k44_15
noncomputable def o44_16 : Array Oper := opsOf k44_16
noncomputable def k44_17 : Code := rgt k44_15
noncomputable def k44_18 : Code := lft k44_17
noncomputable def k44_19 : Code := lft k44_18
noncomputable def k44_20 : Code := rgt k44_18
noncomputable def k44_21 : Code := rgt k44_17
noncomputable def k44_22 : Code := lft k44_21
noncomputable def k44_23 : Code := lft k44_22
noncomputable def k44_24 : Code := lft k44_23
noncomputable def o44_24 : Array Oper := opsOf k44_24
noncomputable def k44_25 : Code := rgt k44_23
noncomputable def k44_26 : Code := lft k44_25
noncomputable def o44_26 : Array Oper := opsOf k44_26
noncomputable def k44_27 : Code := rgt k44_25
noncomputable def k44_28 : Code := lft k44_27
noncomputable def o44_28 : Array Oper := opsOf k44_28
noncomputable def k44_29 : Code := rgt k44_27
noncomputable def k44_30 : Code := lft k44_29
noncomputable def k44_31 : Code := lft k44_30
noncomputable def o44_31 : Array Oper := opsOf k44_31
noncomputable def k44_32 : Code := rgt k44_30
noncomputable def k44_33 : Code := rgt k44_29
noncomputable def k44_34 : Code := rgt k44_21
noncomputable def o44_34 : Array Oper := opsOf k44_34
noncomputable def k44_35 : Code := rgt k44_10
noncomputable def k44_36 : Code := lft k44_35
noncomputable def o44_36 : Array Oper := opsOf k44_36
noncomputable def k44_37 : Code := rgt k44_35
theorem c44s (I : Inv) (next stop : Cont) (k : List Item) (env : List V) (S : Mem) : (codeS I next stop k44_1 k env S = next (.inRegion o44_1 [0] :: k) env S) ∧
  (codeS I next stop k44_4 k env S = next (.inRegion o44_4 [0, 1, 2, 3, 4] :: k) env S) ∧
  (codeS I next stop k44_7 k env S = next (.inRegion o44_7 [0] :: k) env S) ∧
  (codeS I next stop k44_8 k env S = stop (.code .ret :: k) env S) ∧
  (codeS I next stop k44_6 k env S = next (.code k44_7 :: .code k44_8 :: k) env S) ∧
  (codeS I next stop k44_9 k env S = next k env S) ∧
  (codeS I next stop k44_5 k env S = condV next (evalV I env (.tmp 14)) k44_6 k44_9 k env S) ∧
  (codeS I next stop k44_3 k env S = next (.code k44_4 :: .code k44_5 :: k) env S) ∧
  (codeS I next stop k44_12 k env S = next (.inRegion o44_12 [0, 1, 2] :: k) env S) ∧
  (codeS I next stop k44_16 k env S = next (.inRegion o44_16 [0] :: k) env S) ∧
  (codeS I next stop k44_19 k env S = next k env S) ∧
  (codeS I next stop k44_20 k env S = exitV next (exitTo 0 k) env S) ∧
  (codeS I next stop k44_18 k env S = condV next (evalV I env (.tmp 18)) k44_19 k44_20 k env S) ∧
  (codeS I next stop k44_24 k env S = next (.inRegion o44_24 [0, 1, 2, 3, 4, 5] :: k) env S) ∧
  (codeS I next stop k44_26 k env S = next (.inRegion o44_26 [0, 1, 2, 3, 4, 5] :: k) env S) ∧
  (codeS I next stop k44_28 k env S = next (.inRegion o44_28 [0, 1, 2, 3, 4] :: k) env S) ∧
  (codeS I next stop k44_31 k env S = next (.inRegion o44_31 [0] :: k) env S) ∧
  (codeS I next stop k44_32 k env S = stop (.code .ret :: k) env S) ∧
  (codeS I next stop k44_30 k env S = next (.code k44_31 :: .code k44_32 :: k) env S) ∧
  (codeS I next stop k44_33 k env S = next k env S) ∧
  (codeS I next stop k44_29 k env S = condV next (evalV I env (.tmp 30)) k44_30 k44_33 k env S) ∧
  (codeS I next stop k44_27 k env S = next (.code k44_28 :: .code k44_29 :: k) env S) ∧
  (codeS I next stop k44_25 k env S = next (.code k44_26 :: .code k44_27 :: k) env S) ∧
  (codeS I next stop k44_23 k env S = next (.code k44_24 :: .code k44_25 :: k) env S) ∧
  (codeS I next stop k44_22 k env S = next (.code k44_23 :: .inBlock 1 :: k) env S) ∧
  (codeS I next stop k44_34 k env S = next (.inRegion o44_34 [0, 1] :: k) env S) ∧
  (codeS I next stop k44_21 k env S = next (.code k44_22 :: .code k44_34 :: k) env S) ∧
  (codeS I next stop k44_17 k env S = next (.code k44_18 :: .code k44_21 :: k) env S) ∧
  (codeS I next stop k44_15 k env S = next (.code k44_16 :: .code k44_17 :: k) env S) ∧
  (codeS I next stop k44_14 k env S = stop (.code (.loop k44_15) :: k) env S) ∧
  (codeS I next stop k44_13 k env S = next (.code k44_14 :: .inBlock 0 :: k) env S) ∧
  (codeS I next stop k44_11 k env S = next (.code k44_12 :: .code k44_13 :: k) env S) ∧
  (codeS I next stop k44_36 k env S = next (.inRegion o44_36 [0] :: k) env S) ∧
  (codeS I next stop k44_37 k env S = stop (.code .ret :: k) env S) ∧
  (codeS I next stop k44_35 k env S = next (.code k44_36 :: .code k44_37 :: k) env S) ∧
  (codeS I next stop k44_10 k env S = next (.code k44_11 :: .code k44_35 :: k) env S) ∧
  (codeS I next stop k44_2 k env S = next (.code k44_3 :: .code k44_10 :: k) env S) ∧
  (codeS I next stop k44_0 k env S = next (.code k44_1 :: .code k44_2 :: k) env S) := by
  repeat' apply And.intro
  all_goals kernel_rfl
theorem c44r (P : Program) (I : Inv) (next stop : Cont) (rest : List Nat) (k : List Item) (env : List V) (S : Mem) : (regS P I next stop o44_1 0 rest k env S = bindS next (op1 P (evalV I env) S (.assign (.const (.bool false)))) (.inRegion o44_1 rest :: k) (some 6) env) ∧
  (regS P I next stop o44_4 0 rest k env S = bindS next (op1 P (evalV I env) S (.move (.tmp 0))) (.inRegion o44_4 rest :: k) (some 10) env) ∧
  (regS P I next stop o44_4 1 rest k env S = bindS next (opCall P (evalV I env) S { callee := .builtin .len, args := #[.tmp 10], argTypes := #[67] }) (.inRegion o44_4 rest :: k) (some 11) env) ∧
  (regS P I next stop o44_4 2 rest k env S = bindS next (op1 P (evalV I env) S (.move (.tmp 1))) (.inRegion o44_4 rest :: k) (some 12) env) ∧
  (regS P I next stop o44_4 3 rest k env S = bindS next (opCall P (evalV I env) S { callee := .builtin .len, args := #[.tmp 12], argTypes := #[67] }) (.inRegion o44_4 rest :: k) (some 13) env) ∧
  (regS P I next stop o44_4 4 rest k env S = bindS next (op1 P (evalV I env) S (.binOp .neq 3 (.tmp 11) (.tmp 13) 3)) (.inRegion o44_4 rest :: k) (some 14) env) ∧
  (regS P I next stop o44_7 0 rest k env S = bindS next (op1 P (evalV I env) S (.assign (.const (.bool false)))) (.inRegion o44_7 rest :: k) (some 6) env) ∧
  (regS P I next stop o44_12 0 rest k env S = bindS next (op1 P (evalV I env) S (.move (.tmp 0))) (.inRegion o44_12 rest :: k) (some 15) env) ∧
  (regS P I next stop o44_12 1 rest k env S = bindS next (opCall P (evalV I env) S { callee := .builtin .len, args := #[.tmp 15], argTypes := #[67] }) (.inRegion o44_12 rest :: k) (some 16) env) ∧
  (regS P I next stop o44_12 2 rest k env S = bindS next (op1 P (evalV I env) S (.move (.const (.int .i64 0)))) (.inRegion o44_12 rest :: k) (some 17) env) ∧
  (regS P I next stop o44_16 0 rest k env S = bindS next (op1 P (evalV I env) S (.binOp .lss 3 (.tmp 17) (.tmp 16) 3)) (.inRegion o44_16 rest :: k) (some 18) env) ∧
  (regS P I next stop o44_24 0 rest k env S = bindS next (op1 P (evalV I env) S (.move (.tmp 17))) (.inRegion o44_24 rest :: k) (some 19) env) ∧
  (regS P I next stop o44_24 1 rest k env S = bindS next (op1 P (evalV I env) S (.indexAddr 67 (.tmp 15) (.tmp 17))) (.inRegion o44_24 rest :: k) (some 20) env) ∧
  (regS P I next stop o44_24 2 rest k env S = bindS next (op1 P (evalV I env) S (.load 94 (.tmp 20))) (.inRegion o44_24 rest :: k) (some 21) env) ∧
  (regS P I next stop o44_24 3 rest k env S = bindS next (op1 P (evalV I env) S (.alloc 94)) (.inRegion o44_24 rest :: k) (some 8) env) ∧
  (regS P I next stop o44_24 4 rest k env S = bindS next (op1 P (evalV I env) S (.assign (.tmp 19))) (.inRegion o44_24 rest :: k) (some 7) env) ∧
  (regS P I next stop o44_24 5 rest k env S = bindS next (op1 P (evalV I env) S (.store 94 (.tmp 8) (.tmp 21))) (.inRegion o44_24 rest :: k) none env) ∧
  (regS P I next stop o44_26 0 rest k env S = bindS next (op1 P (evalV I env) S (.move (.tmp 1))) (.inRegion o44_26 rest :: k) (some 22) env) ∧
  (regS P I next stop o44_26 1 rest k env S = bindS next (op1 P (evalV I env) S (.move (.tmp 7))) (.inRegion o44_26 rest :: k) (some 23) env) ∧
  (regS P I next stop o44_26 2 rest k env S = bindS next (op1 P (evalV I env) S (.indexAddr 67 (.tmp 22) (.tmp 23))) (.inRegion o44_26 rest :: k) (some 24) env) ∧
  (regS P I next stop o44_26 3 rest k env S = bindS next (op1 P (evalV I env) S (.load 94 (.tmp 24))) (.inRegion o44_26 rest :: k) (some 25) env) ∧
  (regS P I next stop o44_26 4 rest k env S = bindS next (op1 P (evalV I env) S (.alloc 94)) (.inRegion o44_26 rest :: k) (some 9) env) ∧
  (regS P I next stop o44_26 5 rest k env S = bindS next (op1 P (evalV I env) S (.store 94 (.tmp 9) (.tmp 25))) (.inRegion o44_26 rest :: k) none env) ∧
  (regS P I next stop o44_28 0 rest k env S = bindS next (op1 P (evalV I env) S (.move (.tmp 2))) (.inRegion o44_28 rest :: k) (some 26) env) ∧
  (regS P I next stop o44_28 1 rest k env S = bindS next (op1 P (evalV I env) S (.load 94 (.tmp 8))) (.inRegion o44_28 rest :: k) (some 27) env) ∧
  (regS P I next stop o44_28 2 rest k env S = bindS next (op1 P (evalV I env) S (.load 94 (.tmp 9))) (.inRegion o44_28 rest :: k) (some 28) env) ∧
  (regS P I next stop o44_28 3 rest k env S = callS P I stop (evalV I env (.tmp 26)) [evalV I env (.tmp 27), evalV I env (.tmp 28)] (.inRegion o44_28 rest :: k) (some 29) env S) ∧
  (regS P I next stop o44_28 4 rest k env S = bindS next (op1 P (evalV I env) S (.unOp .not 4 (.tmp 29))) (.inRegion o44_28 rest :: k) (some 30) env) ∧
  (regS P I next stop o44_31 0 rest k env S = bindS next (op1 P (evalV I env) S (.assign (.const (.bool false)))) (.inRegion o44_31 rest :: k) (some 6) env) ∧
  (regS P I next stop o44_34 0 rest k env S = bindS next (op1 P (evalV I env) S (.binOp .add 3 (.tmp 17) (.const (.int .i64 1)) 3)) (.inRegion o44_34 rest :: k) (some 31) env) ∧
  (regS P I next stop o44_34 1 rest k env S = bindS next (op1 P (evalV I env) S (.move (.tmp 31))) (.inRegion o44_34 rest :: k) (some 17) env) ∧
  (regS P I next stop o44_36 0 rest k env S = bindS next (op1 P (evalV I env) S (.assign (.const (.bool true)))) (.inRegion o44_36 rest :: k) (some 6) env) := by
  repeat' apply And.intro
  all_goals kernel_rfl
set_option linter.defProp false in
/-- All of these. -/
def c44 := And.intro @c44s (@c44r)
set_option maxHeartbeats 1000000 in
theorem equalFunc_Case (g : FuncId) (first caps : List V) (e : CaT → CaT → Bool) (a b : List CaT) (B : List (List V)) (T : List (Nat × Nat)) (hg : ∀ x ∈ a, ∀ y ∈ b, ∀ J, AFn Tryd.prog TabI g (first ++ [caV x, caV y] ++ caps) ⟨B ++ J, T⟩ (Same (.d (.bool (e x y))) ⟨B ++ J, T⟩)) :
    AFn Tryd.prog TabI 44 [.d (.sl (a.map caD)), .d (.sl (b.map caD)), .func g first caps] ⟨B, T⟩ (Same (.d (.bool (eqF e a b))) ⟨B, T⟩) := by
  obtain ⟨N, hn⟩ : ∃ N, B.length = N := ⟨_, rfl⟩
  refine AFn.bodyE (body := k44_0) 32 Tryd.func44 (by kernel_rfl) (by kernel_rfl) (by kernel_rfl) (Nat.le_of_ble_eq_true rfl) fun hsm => ?_
  simp only [smL, sm, exV, stV, tyV, caV, paV, suV, fuV, prV, Bool.and_eq_true, decide_eq_true_eq, and_true, true_and, List.length_map, ssD_length] at hsm
  refine ARun.go 8 ?_
  simp -implicitDefEqProofs only [awC, awN, Nat.reduceAdd, Nat.reduceSub, Nat.reduceLT, Nat.reduceLeDiff, Nat.reduceEqDiff, Int.reduceToNat, Int.reduceEq, Int.reduceLT, Int.reduceLE, Int.reduceNeg, Int.reduceAdd, Int.reduceSub, Nat.reduceBEq, awT, c44, tys, hn]
  refine ARun.fitE fun hfe => ?_
  have hfe2 := hfe 2
  simp only [envS_get, lk_cons, lk_nil, Nat.reduceBEq, Nat.reduceAdd, Nat.reduceSub, cond_true, cond_false, hn] at hfe2
  clear hfe
  by_cases hl : a.length = b.length
  case neg =>
    have hl' : decide ((a.length : Int) = (b.length : Int)) = false := decide_eq_false (by omega)
    refine ARun.go 200 ?_
    simp -implicitDefEqProofs only [awC, awN, Nat.reduceAdd, Nat.reduceSub, Nat.reduceLT, Nat.reduceLeDiff, Nat.reduceEqDiff, Int.reduceToNat, Int.reduceEq, Int.reduceLT, Int.reduceLE, Int.reduceNeg, Int.reduceAdd, Int.reduceSub, Nat.reduceBEq, awT, c44, tys, hl', hn]
    refine ARun.ret Tryd.func44 rfl (Left.none ?_)
    rw [eqF_len e a b hl]
    exact ⟨rfl, rfl⟩
  have hl' : decide ((a.length : Int) = (b.length : Int)) = true := decide_eq_true (by omega)
  refine ARun.go 30 ?_
  simp -implicitDefEqProofs only [awC, awN, Nat.reduceAdd, Nat.reduceSub, Nat.reduceLT, Nat.reduceLeDiff, Nat.reduceEqDiff, Int.reduceToNat, Int.reduceEq, Int.reduceLT, Int.reduceLE, Int.reduceNeg, Int.reduceAdd, Int.reduceSub, Nat.reduceBEq, awT, c44, tys, hl', hn]
  refine ARun.fits fun hf => ?_
  refine ARun.loopB (fun i : Nat => (envS 32 [(1, .d (.sl (b.map caD))), (2, .func g first caps), (15, .d (.sl (a.map caD))), (16, .d (.int .i64 a.length)), (17, .d (.int .i64 i))], ⟨B, T⟩)) (fun i => i ≤ a.length ∧ eqF e a b = eqF e (a.drop i) (b.drop i)) (fun i => a.length - i) 0 ⟨by omega, rfl⟩ ?_ rfl ?_
  · skip
    refine Agree.env _ ?_
    simp only [agree_cons, agree_nil, eq_self, and_self, true_and, and_true, Int.natCast_add, Int.natCast_one, Int.natCast_zero, envS_get, envS_eval, lk_cons, lk_nil, Nat.reduceBEq, Nat.reduceAdd, Nat.reduceSub, cond_true, cond_false, hn]
  rintro i ⟨h1, h2⟩ ih
  dsimp only at h1 h2 ih ⊢
  by_cases hlt : i < a.length
  · have hw := wrap_in ((i : Int) + 1) (by omega)
    have hltb : i < b.length := by omega
    have hga := List.getElem?_eq_getElem hlt
    have hgb := List.getElem?_eq_getElem hltb
    have hlt' : decide ((i : Int) < (a.length : Int)) = true := decide_eq_true (by omega)
    rw [eqF_step e a b i hlt hltb] at h2
    have hgx := hg a[i] (List.getElem_mem hlt) b[i] (List.getElem_mem hltb)
    obtain ⟨x, hx⟩ : ∃ x, a[i] = x := ⟨_, rfl⟩
    obtain ⟨y, hy⟩ : ∃ y, b[i] = y := ⟨_, rfl⟩
    rw [hx] at hga h2 hgx
    rw [hy] at hgb h2 hgx
    refine ARun.go 200 ?_
    simp -implicitDefEqProofs only [awC, awN, Nat.reduceAdd, Nat.reduceSub, Nat.reduceLT, Nat.reduceLeDiff, Nat.reduceEqDiff, Int.reduceToNat, Int.reduceEq, Int.reduceLT, Int.reduceLE, Int.reduceNeg, Int.reduceAdd, Int.reduceSub, Nat.reduceBEq, awT, c44, tys, hn, List.getElem?_map, hga, hgb, hlt', caD_eq]
    refine callS_of (hgx _) ?_
    rintro _ _ ⟨rfl, rfl⟩
    refine ARun.go 200 ?_
    simp -implicitDefEqProofs only [awC, awN, Nat.reduceAdd, Nat.reduceSub, Nat.reduceLT, Nat.reduceLeDiff, Nat.reduceEqDiff, Int.reduceToNat, Int.reduceEq, Int.reduceLT, Int.reduceLE, Int.reduceNeg, Int.reduceAdd, Int.reduceSub, Nat.reduceBEq, awT, c44, tys, hn]
    cases he : e x y
    · simp -implicitDefEqProofs only [awC, awN, Nat.reduceAdd, Nat.reduceSub, Nat.reduceLT, Nat.reduceLeDiff, Nat.reduceEqDiff, Int.reduceToNat, Int.reduceEq, Int.reduceLT, Int.reduceLE, Int.reduceNeg, Int.reduceAdd, Int.reduceSub, Nat.reduceBEq, awT, c44, tys, hn, he]
      refine ARun.ret Tryd.func44 rfl (Left.box ?_)
      rw [h2, he]
      exact ⟨rfl, rfl⟩
    · simp -implicitDefEqProofs only [awC, awN, Nat.reduceAdd, Nat.reduceSub, Nat.reduceLT, Nat.reduceLeDiff, Nat.reduceEqDiff, Int.reduceToNat, Int.reduceEq, Int.reduceLT, Int.reduceLE, Int.reduceNeg, Int.reduceAdd, Int.reduceSub, Nat.reduceBEq, awT, c44, tys, hn, he, hw]
      rw [he, Bool.true_and] at h2
      refine ih (i + 1) ⟨hlt, h2⟩ (by omega) _ _ _ _ rfl ⟨by omega, Nat.le_refl _⟩ hf ?_
      refine AgreeF.env _ ?_
      simp only [agreeF_cons, agreeF_nil, fit, fitL, eq_self, and_self, true_and, and_true, Bool.and_true, Bool.true_and, Bool.and_self, decide_true, List.length_set, Int.natCast_add, Int.natCast_one, Int.natCast_zero, envS_get, envS_eval, lk_cons, lk_nil, Nat.reduceBEq, Nat.reduceAdd, Nat.reduceSub, cond_true, cond_false, hn]
      exact hfe2
  · have hlt' : decide ((i : Int) < (a.length : Int)) = false := decide_eq_false (by omega)
    refine ARun.go 200 ?_
    simp -implicitDefEqProofs only [awC, awN, Nat.reduceAdd, Nat.reduceSub, Nat.reduceLT, Nat.reduceLeDiff, Nat.reduceEqDiff, Int.reduceToNat, Int.reduceEq, Int.reduceLT, Int.reduceLE, Int.reduceNeg, Int.reduceAdd, Int.reduceSub, Nat.reduceBEq, awT, c44, tys, hn, hlt']
    refine ARun.ret Tryd.func44 rfl (Left.none ?_)
    rw [h2, eqF_end e a b i (by omega) (by omega)]
    exact ⟨rfl, rfl⟩

noncomputable def k21_0 : Code := bodyOf Tryd.f21
noncomputable def k21_1 : Code := lft k21_0
noncomputable def o21_1 : Array Oper := opsOf k21_1
noncomputable def k21_2 : Code := rgt k21_0
noncomputable def k21_3 : Code := lft k21_2
noncomputable def k21_4 : Code := lft k21_3
noncomputable def o21_4 : Array Oper := opsOf k21_4
noncomputable def k21_5 : Code := rgt k21_3
noncomputable def k21_6 : Code := lft k21_5
noncomputable def k21_7 : Code := lft k21_6
noncomputable def o21_7 : Array Oper := opsOf k21_7
noncomputable def k21_8 : Code := rgt k21_6
noncomputable def k21_9 : Code := rgt k21_5
noncomputable def k21_10 : Code := rgt k21_2
noncomputable def k21_11 : Code := lft k21_10
noncomputable def k21_12 : Code := lft k21_11
noncomputable def o21_12 : Array Oper := opsOf k21_12
noncomputable def k21_13 : Code := rgt k21_11
noncomputable def k21_14 : Code := lft k21_13
noncomputable def k21_15 : Code := lft k21_14
noncomputable def k21_16 : Code := lft k21_15
noncomputable def o21_16 : Array Oper := opsOf k21_16
noncomputable def k21_17 : Code := rgt k21_15
noncomputable def k21_18 : Code := lft k21_17
noncomputable def k21_19 : Code := lft k21_18
noncomputable def k21_20 : Code := rgt k21_18
noncomputable def k21_21 : Code := rgt k21_17
noncomputable def k21_22 : Code := lft k21_21
noncomputable def k21_23 : Code := lft k21_22
noncomputable def k21_24 : Code := lft k21_23
noncomputable def o21_24 : Array Oper := opsOf k21_24
noncomputable def k21_25 : Code := rgt k21_23
noncomputable def k21_26 : Code := lft k21_25
noncomputable def o21_26 : Array Oper := opsOf k21_26
noncomputable def k21_27 : Code := rgt k21_25
noncomputable def k21_28 : Code := lft k21_27
noncomputable def o21_28 : Array Oper := opsOf k21_28
noncomputable def k21_29 : Code := rgt k21_27
noncomputable def k21_30 : Code := lft k21_29
noncomputable def k21_31 : Code := lft k21_30
noncomputable def o21_31 : Array Oper := opsOf k21_31
noncomputable def k21_32 : Code := rgt k21_30
noncomputable def k21_33 : Code := rgt k21_29
noncomputable def k21_34 : Code := rgt k21_21
noncomputable def o21_34 : Array Oper := opsOf k21_34
noncomputable def k21_35 : Code := rgt k21_10
noncomputable def k21_36 : Code := lft k21_35
noncomputable def o21_36 : Array Oper := opsOf k21_36
noncomputable def k21_37 : Code := rgt k21_35
theorem c21s (I : Inv) (next stop : Cont) (k : List Item) (env : List V) (S : Mem) : (codeS I next stop k21_1 k env S = next (.inRegion o21_1 [0] :: k) env S) ∧
  (codeS I next stop k21_4 k env S = next (.inRegion o21_4 [0, 1, 2, 3, 4] :: k) env S) ∧
  (codeS I next stop k21_7 k env S = next (.inRegion o21_7 [0] :: k) env S) ∧
  (codeS I next stop k21_8 k env S = stop (.code .ret :: k) env S) ∧
  (codeS I next stop k21_6 k env S = next (.code k21_7 :: .code k21_8 :: k) env S) ∧
  (codeS I next stop k21_9 k env S = next k env S) ∧
  (codeS I next stop k21_5 k env S = condV next (evalV I env (.tmp 14)) k21_6 k21_9 k env S) ∧
  (codeS I next stop k21_3 k env S = next (.code k21_4 :: .code k21_5 :: k) env S) ∧
  (codeS I next stop k21_12 k env S = next (.inRegion o21_12 [0, 1, 2] :: k) env S) ∧
  (codeS I next stop k21_16 k env S = next (.inRegion o21_16 [0] :: k) env S) ∧
  (codeS I next stop k21_19 k env S = next k env S) ∧
  (codeS I next stop k21_20 k env S = exitV next (exitTo 0 k) env S) ∧
  (codeS I next stop k21_18 k env S = condV next (evalV I env (.tmp 18)) k21_19 k21_20 k env S) ∧
  (codeS I next stop k21_24 k env S = next (.inRegion o21_24 [0, 1, 2, 3, 4, 5] :: k) env S) ∧
  (codeS I next stop k21_26 k env S = next (.inRegion o21_26 [0, 1, 2, 3, 4, 5] :: k) env S) ∧
  (codeS I next stop k21_28 k env S = next (.inRegion o21_28 [0, 1, 2, 3, 4] :: k) env S) ∧
  (codeS I next stop k21_31 k env S = next (.inRegion o21_31 [0] :: k) env S) ∧
  (codeS I next stop k21_32 k env S = stop (.code .ret :: k) env S) ∧
  (codeS I next stop k21_30 k env S = next (.code k21_31 :: .code k21_32 :: k) env S) ∧
  (codeS I next stop k21_33 k env S = next k env S) ∧
  (codeS I next stop k21_29 k env S = condV next (evalV I env (.tmp 30)) k21_30 k21_33 k env S) ∧
  (codeS I next stop k21_27 k env S = next (.code k21_28 :: .code k21_29 :: k) env S) ∧
  (codeS I next stop k21_25 k env S = next (.code k21_26 :: .code k21_27 :: k) env S) ∧
  (codeS I next stop k21_23 k env S = next (.code k21_24 :: .code k21_25 :: k) env S) ∧
  (codeS I next stop k21_22 k env S = next (.code k21_23 :: .inBlock 1 :: k) env S) ∧
  (codeS I next stop k21_34 k env S = next (.inRegion o21_34 [0, 1] :: k) env S) ∧
  (codeS I next stop k21_21 k env S = next (.code k21_22 :: .code k21_34 :: k) env S) ∧
  (codeS I next stop k21_17 k env S = next (.code k21_18 :: .code k21_21 :: k) env S) ∧
  (codeS I next stop k21_15 k env S = next (.code k21_16 :: .code k21_17 :: k) env S) ∧
  (codeS I next stop k21_14 k env S = stop (.code (.loop k21_15) :: k) env S) ∧
  (codeS I next stop k21_13 k env S = next (.code k21_14 :: .inBlock 0 :: k) env S) ∧
  (codeS I next stop k21_11 k env S = next (.code k21_12 :: .code k21_13 :: k) env S) ∧
  (codeS I next stop k21_36 k env S = next (.inRegion o21_36 [0] :: k) env S) ∧
  (codeS I next stop k21_37 k env S = stop (.code .ret :: k) env S) ∧
  (codeS I next stop k21_35 k env S = next (.code k21_36 :: .code k21_37 :: k) env S) ∧
  (codeS I next stop k21_10 k env S = next (.code k21_11 :: .code k21_35 :: k) env S) ∧
  (codeS I next stop k21_2 k env S = next (.code k21_3 :: .code k21_10 :: k) env S) ∧
  (codeS I next stop k21_0 k env S = next (.code k21_1 :: .code k21_2 :: k) env S) := by
  repeat' apply And.intro
  all_goals kernel_rfl
theorem c21r (P : Program) (I : Inv) (next stop : Cont) (rest : List Nat) (k : List Item) (env : List V) (S : Mem) : (regS P I next stop o21_1 0 rest k env S = bindS next (op1 P (evalV I env) S (.assign (.const (.bool false)))) (.inRegion o21_1 rest :: k) (some 6) env) ∧
  (regS P I next stop o21_4 0 rest k env S = bindS next (op1 P (evalV I env) S (.move (.tmp 0))) (.inRegion o21_4 rest :: k) (some 10) env) ∧
  (regS P I next stop o21_4 1 rest k env S = bindS next (opCall P (evalV I env) S { callee := .builtin .len, args := #[.tmp 10], argTypes := #[50] }) (.inRegion o21_4 rest :: k) (some 11) env) ∧
  (regS P I next stop o21_4 2 rest k env S = bindS next (op1 P (evalV I env) S (.move (.tmp 1))) (.inRegion o21_4 rest :: k) (some 12) env) ∧
  (regS P I next stop o21_4 3 rest k env S = bindS next (opCall P (evalV I env) S { callee := .builtin .len, args := #[.tmp 12], argTypes := #[50] }) (.inRegion o21_4 rest :: k) (some 13) env) ∧
  (regS P I next stop o21_4 4 rest k env S = bindS next (op1 P (evalV I env) S (.binOp .neq 3 (.tmp 11) (.tmp 13) 3)) (.inRegion o21_4 rest :: k) (some 14) env) ∧
  (regS P I next stop o21_7 0 rest k env S = bindS next (op1 P (evalV I env) S (.assign (.const (.bool false)))) (.inRegion o21_7 rest :: k) (some 6) env) ∧
  (regS P I next stop o21_12 0 rest k env S = bindS next (op1 P (evalV I env) S (.move (.tmp 0))) (.inRegion o21_12 rest :: k) (some 15) env) ∧
  (regS P I next stop o21_12 1 rest k env S = bindS next (opCall P (evalV I env) S { callee := .builtin .len, args := #[.tmp 15], argTypes := #[50] }) (.inRegion o21_12 rest :: k) (some 16) env) ∧
  (regS P I next stop o21_12 2 rest k env S = bindS next (op1 P (evalV I env) S (.move (.const (.int .i64 0)))) (.inRegion o21_12 rest :: k) (some 17) env) ∧
  (regS P I next stop o21_16 0 rest k env S = bindS next (op1 P (evalV I env) S (.binOp .lss 3 (.tmp 17) (.tmp 16) 3)) (.inRegion o21_16 rest :: k) (some 18) env) ∧
  (regS P I next stop o21_24 0 rest k env S = bindS next (op1 P (evalV I env) S (.move (.tmp 17))) (.inRegion o21_24 rest :: k) (some 19) env) ∧
  (regS P I next stop o21_24 1 rest k env S = bindS next (op1 P (evalV I env) S (.indexAddr 50 (.tmp 15) (.tmp 17))) (.inRegion o21_24 rest :: k) (some 20) env) ∧
  (regS P I next stop o21_24 2 rest k env S = bindS next (op1 P (evalV I env) S (.load 60 (.tmp 20))) (.inRegion o21_24 rest :: k) (some 21) env) ∧
  (regS P I next stop o21_24 3 rest k env S = bindS next (op1 P (evalV I env) S (.alloc 60)) (.inRegion o21_24 rest :: k) (some 8) env) ∧
  (regS P I next stop o21_24 4 rest k env S = bindS next (op1 P (evalV I env) S (.assign (.tmp 19))) (.inRegion o21_24 rest :: k) (some 7) env) ∧
  (regS P I next stop o21_24 5 rest k env S = bindS next (op1 P (evalV I env) S (.store 60 (.tmp 8) (.tmp 21))) (.inRegion o21_24 rest :: k) none env) ∧
  (regS P I next stop o21_26 0 rest k env S = bindS next (op1 P (evalV I env) S (.move (.tmp 1))) (.inRegion o21_26 rest :: k) (some 22) env) ∧
  (regS P I next stop o21_26 1 rest k env S = bindS next (op1 P (evalV I env) S (.move (.tmp 7))) (.inRegion o21_26 rest :: k) (some 23) env) ∧
  (regS P I next stop o21_26 2 rest k env S = bindS next (op1 P (evalV I env) S (.indexAddr 50 (.tmp 22) (.tmp 23))) (.inRegion o21_26 rest :: k) (some 24) env) ∧
  (regS P I next stop o21_26 3 rest k env S = bindS next (op1 P (evalV I env) S (.load 60 (.tmp 24))) (.inRegion o21_26 rest :: k) (some 25) env) ∧
  (regS P I next stop o21_26 4 rest k env S = bindS next (op1 P (evalV I env) S (.alloc 60)) (.inRegion o21_26 rest :: k) (some 9) env) ∧
  (regS P I next stop o21_26 5 rest k env S = bindS next (op1 P (evalV I env) S (.store 60 (.tmp 9) (.tmp 25))) (.inRegion o21_26 rest :: k) none env) ∧
  (regS P I next stop o21_28 0 rest k env S = bindS next (op1 P (evalV I env) S (.move (.tmp 2))) (.inRegion o21_28 rest :: k) (some 26) env) ∧
  (regS P I next stop o21_28 1 rest k env S = bindS next (op1 P (evalV I env) S (.load 60 (.tmp 8))) (.inRegion o21_28 rest :: k) (some 27) env) ∧
  (regS P I next stop o21_28 2 rest k env S = bindS next (op1 P (evalV I env) S (.load 60 (.tmp 9))) (.inRegion o21_28 rest :: k) (some 28) env) ∧
  (regS P I next stop o21_28 3 rest k env S = callS P I stop (evalV I env (.tmp 26)) [evalV I env (.tmp 27), evalV I env (.tmp 28)] (.inRegion o21_28 rest :: k) (some 29) env S) ∧
  (regS P I next stop o21_28 4 rest k env S = bindS next (op1 P (evalV I env) S (.unOp .not 4 (.tmp 29))) (.inRegion o21_28 rest :: k) (some 30) env) ∧
  (regS P I next stop o21_31 0 rest k env S = bindS next (op1 P (evalV I env) S (.assign (.const (.bool false)))) (.inRegion o21_31 rest :: k) (some 6) env) ∧
  (regS P I next stop o21_34 0 rest k env S = bindS next (op1 P (evalV I env) S (.binOp .add 3 (.tmp 17) (.const (.int .i64 1)) 3)) (.inRegion o21_34 rest :: k) (some 31) env) ∧
  (regS P I next stop o21_34 1 rest k env S = bindS next (op1 P (evalV I env) S (.move (.tmp 31))) (.inRegion o21_34 rest :: k) (some 17) env) ∧
  (regS P I next stop o21_36 0 rest k env S = bindS next (op1 P (evalV I env) S (.assign (.const (.bool true)))) (.inRegion o21_36 rest :: k) (some 6) env) := by
  repeat' apply And.intro
  all_goals kernel_rfl
set_option linter.defProp false in
/-- All of these. -/
def c21 := And.intro @c21s (@c21r)
set_option maxHeartbeats 1000000 in
theorem equalFunc_Param (g : FuncId) (first caps : List V) (e : PaT → PaT → Bool) (a b : List PaT) (B : List (List V)) (T : List (Nat × Nat)) (hg : ∀ x ∈ a, ∀ y ∈ b, ∀ J, AFn Tryd.prog TabI g (first ++ [paV x, paV y] ++ caps) ⟨B ++ J, T⟩ (Same (.d (.bool (e x y))) ⟨B ++ J, T⟩)) :
    AFn Tryd.prog TabI 21 [.d (.sl (a.map paD)), .d (.sl (b.map paD)), .func g first caps] ⟨B, T⟩ (Same (.d (.bool (eqF e a b))) ⟨B, T⟩) := by
  obtain ⟨N, hn⟩ : ∃ N, B.length = N := ⟨_, rfl⟩
  refine AFn.bodyE (body := k21_0) 32 Tryd.func21 (by kernel_rfl) (by kernel_rfl) (by kernel_rfl) (Nat.le_of_ble_eq_true rfl) fun hsm => ?_
  simp only [smL, sm, exV, stV, tyV, caV, paV, suV, fuV, prV, Bool.and_eq_true, decide_eq_true_eq, and_true, true_and, List.length_map, ssD_length] at hsm
  refine ARun.go 8 ?_
  simp -implicitDefEqProofs only [awC, awN, Nat.reduceAdd, Nat.reduceSub, Nat.reduceLT, Nat.reduceLeDiff, Nat.reduceEqDiff, Int.reduceToNat, Int.reduceEq, Int.reduceLT, Int.reduceLE, Int.reduceNeg, Int.reduceAdd, Int.reduceSub, Nat.reduceBEq, awT, c21, tys, hn]
  refine ARun.fitE fun hfe => ?_
  have hfe2 := hfe 2
  simp only [envS_get, lk_cons, lk_nil, Nat.reduceBEq, Nat.reduceAdd, Nat.reduceSub, cond_true, cond_false, hn] at hfe2
  clear hfe
  by_cases hl : a.length = b.length
  case neg =>
    have hl' : decide ((a.length : Int) = (b.length : Int)) = false := decide_eq_false (by omega)
    refine ARun.go 200 ?_
    simp -implicitDefEqProofs only [awC, awN, Nat.reduceAdd, Nat.reduceSub, Nat.reduceLT, Nat.reduceLeDiff, Nat.reduceEqDiff, Int.reduceToNat, Int.reduceEq, Int.reduceLT, Int.reduceLE, Int.reduceNeg, Int.reduceAdd, Int.reduceSub, Nat.reduceBEq, awT, c21, tys, hl', hn]
    refine ARun.ret Tryd.func21 rfl (Left.none ?_)
    rw [eqF_len e a b hl]
    exact ⟨rfl, rfl⟩
  have hl' : decide ((a.length : Int) = (b.length : Int)) = true := decide_eq_true (by omega)
  refine ARun.go 30 ?_
  simp -implicitDefEqProofs only [awC, awN, Nat.reduceAdd, Nat.reduceSub, Nat.reduceLT, Nat.reduceLeDiff, Nat.reduceEqDiff, Int.reduceToNat, Int.reduceEq, Int.reduceLT, Int.reduceLE, Int.reduceNeg, Int.reduceAdd, Int.reduceSub, Nat.reduceBEq, awT, c21, tys, hl', hn]
  refine ARun.fits fun hf => ?_
  refine ARun.loopB (fun i : Nat => (envS 32 [(1, .d (.sl (b.map paD))), (2, .func g first caps), (15, .d (.sl (a.map paD))), (16, .d (.int .i64 a.length)), (17, .d (.int .i64 i))], ⟨B, T⟩)) (fun i => i ≤ a.length ∧ eqF e a b = eqF e (a.drop i) (b.drop i)) (fun i => a.length - i) 0 ⟨by omega, rfl⟩ ?_ rfl ?_
  · skip
    refine Agree.env _ ?_
    simp only [agree_cons, agree_nil, eq_self, and_self, true_and, and_true, Int.natCast_add, Int.natCast_one, Int.natCast_zero, envS_get, envS_eval, lk_cons, lk_nil, Nat.reduceBEq, Nat.reduceAdd, Nat.reduceSub, cond_true, cond_false, hn]
  rintro i ⟨h1, h2⟩ ih
  dsimp only at h1 h2 ih ⊢
  by_cases hlt : i < a.length
  · have hw := wrap_in ((i : Int) + 1) (by omega)
    have hltb : i < b.length := by omega
    have hga := List.getElem?_eq_getElem hlt
    have hgb := List.getElem?_eq_getElem hltb
    have hlt' : decide ((i : Int) < (a.length : Int)) = true := decide_eq_true (by omega)
    rw [eqF_step e a b i hlt hltb] at h2
    have hgx := hg a[i] (List.getElem_mem hlt) b[i] (List.getElem_mem hltb)
    obtain ⟨x, hx⟩ : ∃ x, a[i] = x := ⟨_, rfl⟩
    obtain ⟨y, hy⟩ : ∃ y, b[i] = y := ⟨_, rfl⟩
    rw [hx] at hga h2 hgx
    rw [hy] at hgb h2 hgx
    refine ARun.go 200 ?_
    simp -implicitDefEqProofs only [awC, awN, Nat.reduceAdd, Nat.reduceSub, Nat.reduceLT, Nat.reduceLeDiff, Nat.reduceEqDiff, Int.reduceToNat, Int.reduceEq, Int.reduceLT, Int.reduceLE, Int.reduceNeg, Int.reduceAdd, Int.reduceSub, Nat.reduceBEq, awT, c21, tys, hn, List.getElem?_map, hga, hgb, hlt', paD_eq]
    refine callS_of (hgx _) ?_
    rintro _ _ ⟨rfl, rfl⟩
    refine ARun.go 200 ?_
    simp -implicitDefEqProofs only [awC, awN, Nat.reduceAdd, Nat.reduceSub, Nat.reduceLT, Nat.reduceLeDiff, Nat.reduceEqDiff, Int.reduceToNat, Int.reduceEq, Int.reduceLT, Int.reduceLE, Int.reduceNeg, Int.reduceAdd, Int.reduceSub, Nat.reduceBEq, awT, c21, tys, hn]
    cases he : e x y
    · simp -implicitDefEqProofs only [awC, awN, Nat.reduceAdd, Nat.reduceSub, Nat.reduceLT, Nat.reduceLeDiff, Nat.reduceEqDiff, Int.reduceToNat, Int.reduceEq, Int.reduceLT, Int.reduceLE, Int.reduceNeg, Int.reduceAdd, Int.reduceSub, Nat.reduceBEq, awT, c21, tys, hn, he]
      refine ARun.ret Tryd.func21 rfl (Left.box ?_)
      rw [h2, he]
      exact ⟨rfl, rfl⟩
    · simp -implicitDefEqProofs only [awC, awN, Nat.reduceAdd, Nat.reduceSub, Nat.reduceLT, Nat.reduceLeDiff, Nat.reduceEqDiff, Int.reduceToNat, Int.reduceEq, Int.reduceLT, Int.reduceLE, Int.reduceNeg, Int.reduceAdd, Int.reduceSub, Nat.reduceBEq, awT, c21, tys, hn, he, hw]
      rw [he, Bool.true_and] at h2
      refine ih (i + 1) ⟨hlt, h2⟩ (by omega) _ _ _ _ rfl ⟨by omega, Nat.le_refl _⟩ hf ?_
      refine AgreeF.env _ ?_
      simp only [agreeF_cons, agreeF_nil, fit, fitL, eq_self, and_self, true_and, and_true, Bool.and_true, Bool.true_and, Bool.and_self, decide_true, List.length_set, Int.natCast_add, Int.natCast_one, Int.natCast_zero, envS_get, envS_eval, lk_cons, lk_nil, Nat.reduceBEq, Nat.reduceAdd, Nat.reduceSub, cond_true, cond_false, hn]
      exact hfe2
  · have hlt' : decide ((i : Int) < (a.length : Int)) = false := decide_eq_false (by omega)
    refine ARun.go 200 ?_
    simp -implicitDefEqProofs only [awC, awN, Nat.reduceAdd, Nat.reduceSub, Nat.reduceLT, Nat.reduceLeDiff, Nat.reduceEqDiff, Int.reduceToNat, Int.reduceEq, Int.reduceLT, Int.reduceLE, Int.reduceNeg, Int.reduceAdd, Int.reduceSub, Nat.reduceBEq, awT, c21, tys, hn, hlt']
    refine ARun.ret Tryd.func21 rfl (Left.none ?_)
    rw [h2, eqF_end e a b i (by omega) (by omega)]
    exact ⟨rfl, rfl⟩

noncomputable def k26_0 : Code := bodyOf Tryd.f26
noncomputable def k26_1 : Code := lft k26_0
noncomputable def o26_1 : Array Oper := opsOf k26_1
noncomputable def k26_2 : Code := rgt k26_0
noncomputable def k26_3 : Code := lft k26_2
noncomputable def k26_4 : Code := lft k26_3
noncomputable def o26_4 : Array Oper := opsOf k26_4
noncomputable def k26_5 : Code := rgt k26_3
noncomputable def k26_6 : Code := lft k26_5
noncomputable def k26_7 : Code := lft k26_6
noncomputable def o26_7 : Array Oper := opsOf k26_7
noncomputable def k26_8 : Code := rgt k26_6
noncomputable def k26_9 : Code := rgt k26_5
noncomputable def k26_10 : Code := rgt k26_2
noncomputable def k26_11 : Code := lft k26_10
noncomputable def k26_12 : Code := lft k26_11
noncomputable def o26_12 : Array Oper := opsOf k26_12
noncomputable def k26_13 : Code := rgt k26_11
noncomputable def k26_14 : Code := lft k26_13
noncomputable def k26_15 : Code := lft k26_14
noncomputable def k26_16 : Code := lft k26_15
noncomputable def o26_16 : Array Oper := opsOf k26_16
noncomputable def k26_17 : Code := rgt k26_15
noncomputable def k26_18 : Code := lft k26_17
noncomputable def k26_19 : Code := lft k26_18
noncomputable def k26_20 : Code := rgt k26_18
noncomputable def k26_21 : Code := rgt k26_17
noncomputable def k26_22 : Code := lft k26_21
noncomputable def k26_23 : Code := lft k26_22
noncomputable def k26_24 : Code := lft k26_23
noncomputable def o26_24 : Array Oper := opsOf k26_24
noncomputable def k26_25 : Code := rgt k26_23
noncomputable def k26_26 : Code := lft k26_25
noncomputable def o26_26 : Array Oper := opsOf k26_26
noncomputable def k26_27 : Code := rgt k26_25
noncomputable def k26_28 : Code := lft k26_27
noncomputable def o26_28 : Array Oper := opsOf k26_28
noncomputable def k26_29 : Code := rgt k26_27
noncomputable def k26_30 : Code := lft k26_29
noncomputable def k26_31 : Code := lft k26_30
noncomputable def o26_31 : Array Oper := opsOf k26_31
noncomputable def k26_32 : Code := rgt k26_30
noncomputable def k26_33 : Code := rgt k26_29
noncomputable def k26_34 : Code := rgt k26_21
noncomputable def o26_34 : Array Oper := opsOf k26_34
noncomputable def k26_35 : Code := rgt k26_10
noncomputable def k26_36 : Code := lft k26_35
noncomputable def o26_36 : Array Oper := opsOf k26_36
noncomputable def k26_37 : Code := rgt k26_35
theorem c26s (I : Inv) (next stop : Cont) (k : List Item) (env : List V) (S : Mem) : (codeS I next stop k26_1 k env S = next (.inRegion o26_1 [0] :: k) env S) ∧
  (codeS I next stop k26_4 k env S = next (.inRegion o26_4 [0, 1, 2, 3, 4] :: k) env S) ∧
  (codeS I next stop k26_7 k env S = next (.inRegion o26_7 [0] :: k) env S) ∧
  (codeS I next stop k26_8 k env S = stop (.code .ret :: k) env S) ∧
  (codeS I next stop k26_6 k env S = next (.code k26_7 :: .code k26_8 :: k) env S) ∧
  (codeS I next stop k26_9 k env S = next k env S) ∧
  (codeS I next stop k26_5 k env S = condV next (evalV I env (.tmp 14)) k26_6 k26_9 k env S) ∧
  (codeS I next stop k26_3 k env S = next (.code k26_4 :: .code k26_5 :: k) env S) ∧
  (codeS I next stop k26_12 k env S = next (.inRegion o26_12 [0, 1, 2] :: k) env S) ∧
  (codeS I next stop k26_16 k env S = next (.inRegion o26_16 [0] :: k) env S) ∧
  (codeS I next stop k26_19 k env S = next k env S) ∧
  (codeS I next stop k26_20 k env S = exitV next (exitTo 0 k) env S) ∧
  (codeS I next stop k26_18 k env S = condV next (evalV I env (.tmp 18)) k26_19 k26_20 k env S) ∧
  (codeS I next stop k26_24 k env S = next (.inRegion o26_24 [0, 1, 2, 3, 4, 5] :: k) env S) ∧
  (codeS I next stop k26_26 k env S = next (.inRegion o26_26 [0, 1, 2, 3, 4, 5] :: k) env S) ∧
  (codeS I next stop k26_28 k env S = next (.inRegion o26_28 [0, 1, 2, 3, 4] :: k) env S) ∧
  (codeS I next stop k26_31 k env S = next (.inRegion o26_31 [0] :: k) env S) ∧
  (codeS I next stop k26_32 k env S = stop (.code .ret :: k) env S) ∧
  (codeS I next stop k26_30 k env S = next (.code k26_31 :: .code k26_32 :: k) env S) ∧
  (codeS I next stop k26_33 k env S = next k env S) ∧
  (codeS I next stop k26_29 k env S = condV next (evalV I env (.tmp 30)) k26_30 k26_33 k env S) ∧
  (codeS I next stop k26_27 k env S = next (.code k26_28 :: .code k26_29 :: k) env S) ∧
  (codeS I next stop k26_25 k env S = next (.code k26_26 :: .code k26_27 :: k) env S) ∧
  (codeS I next stop k26_23 k env S = next (.code k26_24 :: .code k26_25 :: k) env S) ∧
  (codeS I next stop k26_22 k env S = next (.code k26_23 :: .inBlock 1 :: k) env S) ∧
  (codeS I next stop k26_34 k env S = next (.inRegion o26_34 [0, 1] :: k) env S) ∧
  (codeS I next stop k26_21 k env S = next (.code k26_22 :: .code k26_34 :: k) env S) ∧
  (codeS I next stop k26_17 k env S = next (.code k26_18 :: .code k26_21 :: k) env S) ∧
  (codeS I next stop k26_15 k env S = next (.code k26_16 :: .code k26_17 :: k) env S) ∧
  (codeS I next stop k26_14 k env S = stop (.code (.loop k26_15) :: k) env S) ∧
  (codeS I next stop k26_13 k env S = next (.code k26_14 :: .inBlock 0 :: k) env S) ∧
  (codeS I next stop k26_11 k env S = next (.code k26_12 :: .code k26_13 :: k) env S) ∧
  (codeS I next stop k26_36 k env S = next (.inRegion o26_36 [0] :: k) env S) ∧
  (codeS I next stop k26_37 k env S = stop (.code .ret :: k) env S) ∧
  (codeS I next stop k26_35 k env S = next (.code k26_36 :: .code k26_37 :: k) env S) ∧
  (codeS I next stop k26_10 k env S = next (.code k26_11 :: .code k26_35 :: k) env S) ∧
  (codeS I next stop k26_2 k env S = next (.code k26_3 :: .code k26_10 :: k) env S) ∧
  (codeS I next stop k26_0 k env S = next (.code k26_1 :: .code k26_2 :: k) env S) := by
  repeat' apply And.intro
  all_goals kernel_rfl
theorem c26r (P : Program) (I : Inv) (next stop : Cont) (rest : List Nat) (k : List Item) (env : List V) (S : Mem) : (regS P I next stop o26_1 0 rest k env S = bindS next (op1 P (evalV I env) S (.assign (.const (.bool false)))) (.inRegion o26_1 rest :: k) (some 6) env) ∧
  (regS P I next stop o26_4 0 rest k env S = bindS next (op1 P (evalV I env) S (.move (.tmp 0))) (.inRegion o26_4 rest :: k) (some 10) env) ∧
  (regS P I next stop o26_4 1 rest k env S = bindS next (opCall P (evalV I env) S { callee := .builtin .len, args := #[.tmp 10], argTypes := #[22] }) (.inRegion o26_4 rest :: k) (some 11) env) ∧
  (regS P I next stop o26_4 2 rest k env S = bindS next (op1 P (evalV I env) S (.move (.tmp 1))) (.inRegion o26_4 rest :: k) (some 12) env) ∧
  (regS P I next stop o26_4 3 rest k env S = bindS next (opCall P (evalV I env) S { callee := .builtin .len, args := #[.tmp 12], argTypes := #[22] }) (.inRegion o26_4 rest :: k) (some 13) env) ∧
  (regS P I next stop o26_4 4 rest k env S = bindS next (op1 P (evalV I env) S (.binOp .neq 3 (.tmp 11) (.tmp 13) 3)) (.inRegion o26_4 rest :: k) (some 14) env) ∧
  (regS P I next stop o26_7 0 rest k env S = bindS next (op1 P (evalV I env) S (.assign (.const (.bool false)))) (.inRegion o26_7 rest :: k) (some 6) env) ∧
  (regS P I next stop o26_12 0 rest k env S = bindS next (op1 P (evalV I env) S (.move (.tmp 0))) (.inRegion o26_12 rest :: k) (some 15) env) ∧
  (regS P I next stop o26_12 1 rest k env S = bindS next (opCall P (evalV I env) S { callee := .builtin .len, args := #[.tmp 15], argTypes := #[22] }) (.inRegion o26_12 rest :: k) (some 16) env) ∧
  (regS P I next stop o26_12 2 rest k env S = bindS next (op1 P (evalV I env) S (.move (.const (.int .i64 0)))) (.inRegion o26_12 rest :: k) (some 17) env) ∧
  (regS P I next stop o26_16 0 rest k env S = bindS next (op1 P (evalV I env) S (.binOp .lss 3 (.tmp 17) (.tmp 16) 3)) (.inRegion o26_16 rest :: k) (some 18) env) ∧
  (regS P I next stop o26_24 0 rest k env S = bindS next (op1 P (evalV I env) S (.move (.tmp 17))) (.inRegion o26_24 rest :: k) (some 19) env) ∧
  (regS P I next stop o26_24 1 rest k env S = bindS next (op1 P (evalV I env) S (.indexAddr 22 (.tmp 15) (.tmp 17))) (.inRegion o26_24 rest :: k) (some 20) env) ∧
  (regS P I next stop o26_24 2 rest k env S = bindS next (op1 P (evalV I env) S (.load 52 (.tmp 20))) (.inRegion o26_24 rest :: k) (some 21) env) ∧
  (regS P I next stop o26_24 3 rest k env S = bindS next (op1 P (evalV I env) S (.alloc 52)) (.inRegion o26_24 rest :: k) (some 8) env) ∧
  (regS P I next stop o26_24 4 rest k env S = bindS next (op1 P (evalV I env) S (.assign (.tmp 19))) (.inRegion o26_24 rest :: k) (some 7) env) ∧
  (regS P I next stop o26_24 5 rest k env S = bindS next (op1 P (evalV I env) S (.store 52 (.tmp 8) (.tmp 21))) (.inRegion o26_24 rest :: k) none env) ∧
  (regS P I next stop o26_26 0 rest k env S = bindS next (op1 P (evalV I env) S (.move (.tmp 1))) (.inRegion o26_26 rest :: k) (some 22) env) ∧
  (regS P I next stop o26_26 1 rest k env S = bindS next (op1 P (evalV I env) S (.move (.tmp 7))) (.inRegion o26_26 rest :: k) (some 23) env) ∧
  (regS P I next stop o26_26 2 rest k env S = bindS next (op1 P (evalV I env) S (.indexAddr 22 (.tmp 22) (.tmp 23))) (.inRegion o26_26 rest :: k) (some 24) env) ∧
  (regS P I next stop o26_26 3 rest k env S = bindS next (op1 P (evalV I env) S (.load 52 (.tmp 24))) (.inRegion o26_26 rest :: k) (some 25) env) ∧
  (regS P I next stop o26_26 4 rest k env S = bindS next (op1 P (evalV I env) S (.alloc 52)) (.inRegion o26_26 rest :: k) (some 9) env) ∧
  (regS P I next stop o26_26 5 rest k env S = bindS next (op1 P (evalV I env) S (.store 52 (.tmp 9) (.tmp 25))) (.inRegion o26_26 rest :: k) none env) ∧
  (regS P I next stop o26_28 0 rest k env S = bindS next (op1 P (evalV I env) S (.move (.tmp 2))) (.inRegion o26_28 rest :: k) (some 26) env) ∧
  (regS P I next stop o26_28 1 rest k env S = bindS next (op1 P (evalV I env) S (.load 52 (.tmp 8))) (.inRegion o26_28 rest :: k) (some 27) env) ∧
  (regS P I next stop o26_28 2 rest k env S = bindS next (op1 P (evalV I env) S (.load 52 (.tmp 9))) (.inRegion o26_28 rest :: k) (some 28) env) ∧
  (regS P I next stop o26_28 3 rest k env S = callS P I stop (evalV I env (.tmp 26)) [evalV I env (.tmp 27), evalV I env (.tmp 28)] (.inRegion o26_28 rest :: k) (some 29) env S) ∧
  (regS P I next stop o26_28 4 rest k env S = bindS next (op1 P (evalV I env) S (.unOp .not 4 (.tmp 29))) (.inRegion o26_28 rest :: k) (some 30) env) ∧
  (regS P I next stop o26_31 0 rest k env S = bindS next (op1 P (evalV I env) S (.assign (.const (.bool false)))) (.inRegion o26_31 rest :: k) (some 6) env) ∧
  (regS P I next stop o26_34 0 rest k env S = bindS next (op1 P (evalV I env) S (.binOp .add 3 (.tmp 17) (.const (.int .i64 1)) 3)) (.inRegion o26_34 rest :: k) (some 31) env) ∧
  (regS P I next stop o26_34 1 rest k env S = bindS next (op1 P (evalV I env) S (.move (.tmp 31))) (.inRegion o26_34 rest :: k) (some 17) env) ∧
  (regS P I next stop o26_36 0 rest k env S = bindS next (op1 P (evalV I env) S (.assign (.const (.bool true)))) (.inRegion o26_36 rest :: k) (some 6) env) := by
  repeat' apply And.intro
  all_goals kernel_rfl
set_option linter.defProp false in
/-- All of these. -/
def c26 := And.intro @c26s (@c26r)
set_option maxHeartbeats 1000000 in
theorem equalFunc_Struct (g : FuncId) (first caps : List V) (e : SuT → SuT → Bool) (a b : List SuT) (B : List (List V)) (T : List (Nat × Nat)) (hg : ∀ x ∈ a, ∀ y ∈ b, ∀ J, AFn Tryd.prog TabI g (first ++ [suV x, suV y] ++ caps) ⟨B ++ J, T⟩ (Same (.d (.bool (e x y))) ⟨B ++ J, T⟩)) :
    AFn Tryd.prog TabI 26 [.d (.sl (a.map suD)), .d (.sl (b.map suD)), .func g first caps] ⟨B, T⟩ (Same (.d (.bool (eqF e a b))) ⟨B, T⟩) := by
  obtain ⟨N, hn⟩ : ∃ N, B.length = N := ⟨_, rfl⟩
  refine AFn.bodyE (body := k26_0) 32 Tryd.func26 (by kernel_rfl) (by kernel_rfl) (by kernel_rfl) (Nat.le_of_ble_eq_true rfl) fun hsm => ?_
  simp only [smL, sm, exV, stV, tyV, caV, paV, suV, fuV, prV, Bool.and_eq_true, decide_eq_true_eq, and_true, true_and, List.length_map, ssD_length] at hsm
  refine ARun.go 8 ?_
  simp -implicitDefEqProofs only [awC, awN, Nat.reduceAdd, Nat.reduceSub, Nat.reduceLT, Nat.reduceLeDiff, Nat.reduceEqDiff, Int.reduceToNat, Int.reduceEq, Int.reduceLT, Int.reduceLE, Int.reduceNeg, Int.reduceAdd, Int.reduceSub, Nat.reduceBEq, awT, c26, tys, hn]
  refine ARun.fitE fun hfe => ?_
  have hfe2 := hfe 2
  simp only [envS_get, lk_cons, lk_nil, Nat.reduceBEq, Nat.reduceAdd, Nat.reduceSub, cond_true, cond_false, hn] at hfe2
  clear hfe
  by_cases hl : a.length = b.length
  case neg =>
    have hl' : decide ((a.length : Int) = (b.length : Int)) = false := decide_eq_false (by omega)
    refine ARun.go 200 ?_
    simp -implicitDefEqProofs only [awC, awN, Nat.reduceAdd, Nat.reduceSub, Nat.reduceLT, Nat.reduceLeDiff, Nat.reduceEqDiff, Int.reduceToNat, Int.reduceEq, Int.reduceLT, Int.reduceLE, Int.reduceNeg, Int.reduceAdd, Int.reduceSub, Nat.reduceBEq, awT, c26, tys, hl', hn]
    refine ARun.ret Tryd.func26 rfl (Left.none ?_)
    rw [eqF_len e a b hl]
    exact ⟨rfl, rfl⟩
  have hl' : decide ((a.length : Int) = (b.length : Int)) = true := decide_eq_true (by omega)
  refine ARun.go 30 ?_
  simp -implicitDefEqProofs only [awC, awN, Nat.reduceAdd, Nat.reduceSub, Nat.reduceLT, Nat.reduceLeDiff, Nat.reduceEqDiff, Int.reduceToNat, Int.reduceEq, Int.reduceLT, Int.reduceLE, Int.reduceNeg, Int.reduceAdd, Int.reduceSub, Nat.reduceBEq, awT, c26, tys, hl', hn]
  refine ARun.fits fun hf => ?_
  refine ARun.loopB (fun i : Nat => (envS 32 [(1, .d (.sl (b.map suD))), (2, .func g first caps), (15, .d (.sl (a.map suD))), (16, .d (.int .i64 a.length)), (17, .d (.int .i64 i))], ⟨B, T⟩)) (fun i => i ≤ a.length ∧ eqF e a b = eqF e (a.drop i) (b.drop i)) (fun i => a.length - i) 0 ⟨by omega, rfl⟩ ?_ rfl ?_
  · skip
    refine Agree.env _ ?_
    simp only [agree_cons, agree_nil, eq_self, and_self, true_and, and_true, Int.natCast_add, Int.natCast_one, Int.natCast_zero, envS_get, envS_eval, lk_cons, lk_nil, Nat.reduceBEq, Nat.reduceAdd, Nat.reduceSub, cond_true, cond_false, hn]
  rintro i ⟨h1, h2⟩ ih
  dsimp only at h1 h2 ih ⊢
  by_cases hlt : i < a.length
  · have hw := wrap_in ((i : Int) + 1) (by omega)
    have hltb : i < b.length := by omega
    have hga := List.getElem?_eq_getElem hlt
    have hgb := List.getElem?_eq_getElem hltb
    have hlt' : decide ((i : Int) < (a.length : Int)) = true := decide_eq_true (by omega)
    rw [eqF_step e a b i hlt hltb] at h2
    have hgx := hg a[i] (List.getElem_mem hlt) b[i] (List.getElem_mem hltb)
    obtain ⟨x, hx⟩ : ∃ x, a[i] = x := ⟨_, rfl⟩
    obtain ⟨y, hy⟩ : ∃ y, b[i] = y := ⟨_, rfl⟩
    rw [hx] at hga h2 hgx
    rw [hy] at hgb h2 hgx
    refine ARun.go 200 ?_
    simp -implicitDefEqProofs only [awC, awN, Nat.reduceAdd, Nat.reduceSub, Nat.reduceLT, Nat.reduceLeDiff, Nat.reduceEqDiff, Int.reduceToNat, Int.reduceEq, Int.reduceLT, Int.reduceLE, Int.reduceNeg, Int.reduceAdd, Int.reduceSub, Nat.reduceBEq, awT, c26, tys, hn, List.getElem?_map, hga, hgb, hlt', suD_eq]
    refine callS_of (hgx _) ?_
    rintro _ _ ⟨rfl, rfl⟩
    refine ARun.go 200 ?_
    simp -implicitDefEqProofs only [awC, awN, Nat.reduceAdd, Nat.reduceSub, Nat.reduceLT, Nat.reduceLeDiff, Nat.reduceEqDiff, Int.reduceToNat, Int.reduceEq, Int.reduceLT, Int.reduceLE, Int.reduceNeg, Int.reduceAdd, Int.reduceSub, Nat.reduceBEq, awT, c26, tys, hn]
    cases he : e x y
    · simp -implicitDefEqProofs only [awC, awN, Nat.reduceAdd, Nat.reduceSub, Nat.reduceLT, Nat.reduceLeDiff, Nat.reduceEqDiff, Int.reduceToNat, Int.reduceEq, Int.reduceLT, Int.reduceLE, Int.reduceNeg, Int.reduceAdd, Int.reduceSub, Nat.reduceBEq, awT, c26, tys, hn, he]
      refine ARun.ret Tryd.func26 rfl (Left.box ?_)
      rw [h2, he]
      exact ⟨rfl, rfl⟩
    · simp -implicitDefEqProofs only [awC, awN, Nat.reduceAdd, Nat.reduceSub, Nat.reduceLT, Nat.reduceLeDiff, Nat.reduceEqDiff, Int.reduceToNat, Int.reduceEq, Int.reduceLT, Int.reduceLE, Int.reduceNeg, Int.reduceAdd, Int.reduceSub, Nat.reduceBEq, awT, c26, tys, hn, he, hw]
      rw [he, Bool.true_and] at h2
      refine ih (i + 1) ⟨hlt, h2⟩ (by omega) _ _ _ _ rfl ⟨by omega, Nat.le_refl _⟩ hf ?_
      refine AgreeF.env _ ?_
      simp only [agreeF_cons, agreeF_nil, fit, fitL, eq_self, and_self, true_and, and_true, Bool.and_true, Bool.true_and, Bool.and_self, decide_true, List.length_set, Int.natCast_add, Int.natCast_one, Int.natCast_zero, envS_get, envS_eval, lk_cons, lk_nil, Nat.reduceBEq, Nat.reduceAdd, Nat.reduceSub, cond_true, cond_false, hn]
      exact hfe2
  · have hlt' : decide ((i : Int) < (a.length : Int)) = false := decide_eq_false (by omega)
    refine ARun.go 200 ?_
    simp -implicitDefEqProofs only [awC, awN, Nat.reduceAdd, Nat.reduceSub, Nat.reduceLT, Nat.reduceLeDiff, Nat.reduceEqDiff, Int.reduceToNat, Int.reduceEq, Int.reduceLT, Int.reduceLE, Int.reduceNeg, Int.reduceAdd, Int.reduceSub, Nat.reduceBEq, awT, c26, tys, hn, hlt']
    refine ARun.ret Tryd.func26 rfl (Left.none ?_)
    rw [h2, eqF_end e a b i (by omega) (by omega)]
    exact ⟨rfl, rfl⟩

noncomputable def k27_0 : Code := bodyOf Tryd.f27
noncomputable def k27_1 : Code := lft k27_0
noncomputable def o27_1 : Array Oper := opsOf k27_1
noncomputable def k27_2 : Code := rgt k27_0
noncomputable def k27_3 : Code := lft k27_2
noncomputable def k27_4 : Code := lft k27_3
noncomputable def o27_4 : Array Oper := opsOf k27_4
noncomputable def k27_5 : Code := rgt k27_3
noncomputable def k27_6 : Code := lft k27_5
noncomputable def k27_7 : Code := lft k27_6
noncomputable def o27_7 : Array Oper := opsOf k27_7
noncomputable def k27_8 : Code := rgt k27_6
noncomputable def k27_9 : Code := rgt k27_5
noncomputable def k27_10 : Code := rgt k27_2
noncomputable def k27_11 : Code := lft k27_10
noncomputable def k27_12 : Code := lft k27_11
noncomputable def o27_12 : Array Oper := opsOf k27_12
noncomputable def k27_13 : Code := rgt k27_11
noncomputable def k27_14 : Code := lft k27_13
noncomputable def k27_15 : Code := lft k27_14
noncomputable def k27_16 : Code := lft k27_15
noncomputable def o27_16 : Array Oper := opsOf k27_16
noncomputable def k27_17 : Code := rgt k27_15
noncomputable def k27_18 : Code := lft k27_17
noncomputable def k27_19 : Code := lft k27_18
noncomputable def k27_20 : Code := rgt k27_18
noncomputable def k27_21 : Code := rgt k27_17
noncomputable def k27_22 : Code := lft k27_21
noncomputable def k27_23 : Code := lft k27_22
noncomputable def k27_24 : Code := lft k27_23
noncomputable def o27_24 : Array Oper := opsOf k27_24
noncomputable def k27_25 : Code := rgt k27_23
noncomputable def k27_26 : Code := lft k27_25
noncomputable def o27_26 : Array Oper := opsOf k27_26
noncomputable def k27_27 : Code := rgt k27_25
noncomputable def k27_28 : Code := lft k27_27
noncomputable def o27_28 : Array Oper := opsOf k27_28
noncomputable def k27_29 : Code := rgt k27_27
noncomputable def k27_30 : Code := lft k27_29
noncomputable def k27_31 : Code := lft k27_30
noncomputable def o27_31 : Array Oper := opsOf k27_31
noncomputable def k27_32 : Code := rgt k27_30
noncomputable def k27_33 : Code := rgt k27_29
noncomputable def k27_34 : Code := rgt k27_21
noncomputable def o27_34 : Array Oper := opsOf k27_34
noncomputable def k27_35 : Code := rgt k27_10
noncomputable def k27_36 : Code := lft k27_35
noncomputable def o27_36 : Array Oper := opsOf k27_36
noncomputable def k27_37 : Code := rgt k27_35
theorem c27s (I : Inv) (next stop : Cont) (k : List Item) (env : List V) (S : Mem) : (codeS I next stop k27_1 k env S = next (.inRegion o27_1 [0] :: k) env S) ∧
  (codeS I next stop k27_4 k env S = next (.inRegion o27_4 [0, 1, 2, 3, 4] :: k) env S) ∧
  (codeS I next stop k27_7 k env S = next (.inRegion o27_7 [0] :: k) env S) ∧
  (codeS I next stop k27_8 k env S = stop (.code .ret :: k) env S) ∧
  (codeS I next stop k27_6 k env S = next (.code k27_7 :: .code k27_8 :: k) env S) ∧
  (codeS I next stop k27_9 k env S = next k env S) ∧
  (codeS I next stop k27_5 k env S = condV next (evalV I env (.tmp 14)) k27_6 k27_9 k env S) ∧
  (codeS I next stop k27_3 k env S = next (.code k27_4 :: .code k27_5 :: k) env S) ∧
  (codeS I next stop k27_12 k env S = next (.inRegion o27_12 [0, 1, 2] :: k) env S) ∧
  (codeS I next stop k27_16 k env S = next (.inRegion o27_16 [0] :: k) env S) ∧
  (codeS I next stop k27_19 k env S = next k env S) ∧
  (codeS I next stop k27_20 k env S = exitV next (exitTo 0 k) env S) ∧
  (codeS I next stop k27_18 k env S = condV next (evalV I env (.tmp 18)) k27_19 k27_20 k env S) ∧
  (codeS I next stop k27_24 k env S = next (.inRegion o27_24 [0, 1, 2, 3, 4, 5] :: k) env S) ∧
  (codeS I next stop k27_26 k env S = next (.inRegion o27_26 [0, 1, 2, 3, 4, 5] :: k) env S) ∧
  (codeS I next stop k27_28 k env S = next (.inRegion o27_28 [0, 1, 2, 3, 4] :: k) env S) ∧
  (codeS I next stop k27_31 k env S = next (.inRegion o27_31 [0] :: k) env S) ∧
  (codeS I next stop k27_32 k env S = stop (.code .ret :: k) env S) ∧
  (codeS I next stop k27_30 k env S = next (.code k27_31 :: .code k27_32 :: k) env S) ∧
  (codeS I next stop k27_33 k env S = next k env S) ∧
  (codeS I next stop k27_29 k env S = condV next (evalV I env (.tmp 30)) k27_30 k27_33 k env S) ∧
  (codeS I next stop k27_27 k env S = next (.code k27_28 :: .code k27_29 :: k) env S) ∧
  (codeS I next stop k27_25 k env S = next (.code k27_26 :: .code k27_27 :: k) env S) ∧
  (codeS I next stop k27_23 k env S = next (.code k27_24 :: .code k27_25 :: k) env S) ∧
  (codeS I next stop k27_22 k env S = next (.code k27_23 :: .inBlock 1 :: k) env S) ∧
  (codeS I next stop k27_34 k env S = next (.inRegion o27_34 [0, 1] :: k) env S) ∧
  (codeS I next stop k27_21 k env S = next (.code k27_22 :: .code k27_34 :: k) env S) ∧
  (codeS I next stop k27_17 k env S = next (.code k27_18 :: .code k27_21 :: k) env S) ∧
  (codeS I next stop k27_15 k env S = next (.code k27_16 :: .code k27_17 :: k) env S) ∧
  (codeS I next stop k27_14 k env S = stop (.code (.loop k27_15) :: k) env S) ∧
  (codeS I next stop k27_13 k env S = next (.code k27_14 :: .inBlock 0 :: k) env S) ∧
  (codeS I next stop k27_11 k env S = next (.code k27_12 :: .code k27_13 :: k) env S) ∧
  (codeS I next stop k27_36 k env S = next (.inRegion o27_36 [0] :: k) env S) ∧
  (codeS I next stop k27_37 k env S = stop (.code .ret :: k) env S) ∧
  (codeS I next stop k27_35 k env S = next (.code k27_36 :: .code k27_37 :: k) env S) ∧
  (codeS I next stop k27_10 k env S = next (.code k27_11 :: .code k27_35 :: k) env S) ∧
  (codeS I next stop k27_2 k env S = next (.code k27_3 :: .code k27_10 :: k) env S) ∧
  (codeS I next stop k27_0 k env S = next (.code k27_1 :: .code k27_2 :: k) env S) := by
  repeat' apply And.intro
  all_goals kernel_rfl
theorem c27r (P : Program) (I : Inv) (next stop : Cont) (rest : List Nat) (k : List Item) (env : List V) (S : Mem) : (regS P I next stop o27_1 0 rest k env S = bindS next (op1 P (evalV I env) S (.assign (.const (.bool false)))) (.inRegion o27_1 rest :: k) (some 6) env) ∧
  (regS P I next stop o27_4 0 rest k env S = bindS next (op1 P (evalV I env) S (.move (.tmp 0))) (.inRegion o27_4 rest :: k) (some 10) env) ∧
  (regS P I next stop o27_4 1 rest k env S = bindS next (opCall P (evalV I env) S { callee := .builtin .len, args := #[.tmp 10], argTypes := #[23] }) (.inRegion o27_4 rest :: k) (some 11) env) ∧
  (regS P I next stop o27_4 2 rest k env S = bindS next (op1 P (evalV I env) S (.move (.tmp 1))) (.inRegion o27_4 rest :: k) (some 12) env) ∧
  (regS P I next stop o27_4 3 rest k env S = bindS next (opCall P (evalV I env) S { callee := .builtin .len, args := #[.tmp 12], argTypes := #[23] }) (.inRegion o27_4 rest :: k) (some 13) env) ∧
  (regS P I next stop o27_4 4 rest k env S = bindS next (op1 P (evalV I env) S (.binOp .neq 3 (.tmp 11) (.tmp 13) 3)) (.inRegion o27_4 rest :: k) (some 14) env) ∧
  (regS P I next stop o27_7 0 rest k env S = bindS next (op1 P (evalV I env) S (.assign (.const (.bool false)))) (.inRegion o27_7 rest :: k) (some 6) env) ∧
  (regS P I next stop o27_12 0 rest k env S = bindS next (op1 P (evalV I env) S (.move (.tmp 0))) (.inRegion o27_12 rest :: k) (some 15) env) ∧
  (regS P I next stop o27_12 1 rest k env S = bindS next (opCall P (evalV I env) S { callee := .builtin .len, args := #[.tmp 15], argTypes := #[23] }) (.inRegion o27_12 rest :: k) (some 16) env) ∧
  (regS P I next stop o27_12 2 rest k env S = bindS next (op1 P (evalV I env) S (.move (.const (.int .i64 0)))) (.inRegion o27_12 rest :: k) (some 17) env) ∧
  (regS P I next stop o27_16 0 rest k env S = bindS next (op1 P (evalV I env) S (.binOp .lss 3 (.tmp 17) (.tmp 16) 3)) (.inRegion o27_16 rest :: k) (some 18) env) ∧
  (regS P I next stop o27_24 0 rest k env S = bindS next (op1 P (evalV I env) S (.move (.tmp 17))) (.inRegion o27_24 rest :: k) (some 19) env) ∧
  (regS P I next stop o27_24 1 rest k env S = bindS next (op1 P (evalV I env) S (.indexAddr 23 (.tmp 15) (.tmp 17))) (.inRegion o27_24 rest :: k) (some 20) env) ∧
  (regS P I next stop o27_24 2 rest k env S = bindS next (op1 P (evalV I env) S (.load 56 (.tmp 20))) (.inRegion o27_24 rest :: k) (some 21) env) ∧
  (regS P I next stop o27_24 3 rest k env S = bindS next (op1 P (evalV I env) S (.alloc 56)) (.inRegion o27_24 rest :: k) (some 8) env) ∧
  (regS P I next stop o27_24 4 rest k env S = bindS next (op1 P (evalV I env) S (.assign (.tmp 19))) (.inRegion o27_24 rest :: k) (some 7) env) ∧
  (regS P I next stop o27_24 5 rest k env S = bindS next (op1 P (evalV I env) S (.store 56 (.tmp 8) (.tmp 21))) (.inRegion o27_24 rest :: k) none env) ∧
  (regS P I next stop o27_26 0 rest k env S = bindS next (op1 P (evalV I env) S (.move (.tmp 1))) (.inRegion o27_26 rest :: k) (some 22) env) ∧
  (regS P I next stop o27_26 1 rest k env S = bindS next (op1 P (evalV I env) S (.move (.tmp 7))) (.inRegion o27_26 rest :: k) (some 23) env) ∧
  (regS P I next stop o27_26 2 rest k env S = bindS next (op1 P (evalV I env) S (.indexAddr 23 (.tmp 22) (.tmp 23))) (.inRegion o27_26 rest :: k) (some 24) env) ∧
  (regS P I next stop o27_26 3 rest k env S = bindS next (op1 P (evalV I env) S (.load 56 (.tmp 24))) (.inRegion o27_26 rest :: k) (some 25) env) ∧
  (regS P I next stop o27_26 4 rest k env S = bindS next (op1 P (evalV I env) S (.alloc 56)) (.inRegion o27_26 rest :: k) (some 9) env) ∧
  (regS P I next stop o27_26 5 rest k env S = bindS next (op1 P (evalV I env) S (.store 56 (.tmp 9) (.tmp 25))) (.inRegion o27_26 rest :: k) none env) ∧
  (regS P I next stop o27_28 0 rest k env S = bindS next (op1 P (evalV I env) S (.move (.tmp 2))) (.inRegion o27_28 rest :: k) (some 26) env) ∧
  (regS P I next stop o27_28 1 rest k env S = bindS next (op1 P (evalV I env) S (.load 56 (.tmp 8))) (.inRegion o27_28 rest :: k) (some 27) env) ∧
  (regS P I next stop o27_28 2 rest k env S = bindS next (op1 P (evalV I env) S (.load 56 (.tmp 9))) (.inRegion o27_28 rest :: k) (some 28) env) ∧
  (regS P I next stop o27_28 3 rest k env S = callS P I stop (evalV I env (.tmp 26)) [evalV I env (.tmp 27), evalV I env (.tmp 28)] (.inRegion o27_28 rest :: k) (some 29) env S) ∧
  (regS P I next stop o27_28 4 rest k env S = bindS next (op1 P (evalV I env) S (.unOp .not 4 (.tmp 29))) (.inRegion o27_28 rest :: k) (some 30) env) ∧
  (regS P I next stop o27_31 0 rest k env S = bindS next (op1 P (evalV I env) S (.assign (.const (.bool false)))) (.inRegion o27_31 rest :: k) (some 6) env) ∧
  (regS P I next stop o27_34 0 rest k env S = bindS next (op1 P (evalV I env) S (.binOp .add 3 (.tmp 17) (.const (.int .i64 1)) 3)) (.inRegion o27_34 rest :: k) (some 31) env) ∧
  (regS P I next stop o27_34 1 rest k env S = bindS next (op1 P (evalV I env) S (.move (.tmp 31))) (.inRegion o27_34 rest :: k) (some 17) env) ∧
  (regS P I next stop o27_36 0 rest k env S = bindS next (op1 P (evalV I env) S (.assign (.const (.bool true)))) (.inRegion o27_36 rest :: k) (some 6) env) := by
  repeat' apply And.intro
  all_goals kernel_rfl
set_option linter.defProp false in
/-- All of these. -/
def c27 := And.intro @c27s (@c27r)
set_option maxHeartbeats 1000000 in
theorem equalFunc_Func (g : FuncId) (first caps : List V) (e : FuT → FuT → Bool) (a b : List FuT) (B : List (List V)) (T : List (Nat × Nat)) (hg : ∀ x ∈ a, ∀ y ∈ b, ∀ J, AFn Tryd.prog TabI g (first ++ [fuV x, fuV y] ++ caps) ⟨B ++ J, T⟩ (Same (.d (.bool (e x y))) ⟨B ++ J, T⟩)) :
    AFn Tryd.prog TabI 27 [.d (.sl (a.map fuD)), .d (.sl (b.map fuD)), .func g first caps] ⟨B, T⟩ (Same (.d (.bool (eqF e a b))) ⟨B, T⟩) := by
  obtain ⟨N, hn⟩ : ∃ N, B.length = N := ⟨_, rfl⟩
  refine AFn.bodyE (body := k27_0) 32 Tryd.func27 (by kernel_rfl) (by kernel_rfl) (by kernel_rfl) (Nat.le_of_ble_eq_true rfl) fun hsm => ?_
  simp only [smL, sm, exV, stV, tyV, caV, paV, suV, fuV, prV, Bool.and_eq_true, decide_eq_true_eq, and_true, true_and, List.length_map, ssD_length] at hsm
  refine ARun.go 8 ?_
  simp -implicitDefEqProofs only [awC, awN, Nat.reduceAdd, Nat.reduceSub, Nat.reduceLT, Nat.reduceLeDiff, Nat.reduceEqDiff, Int.reduceToNat, Int.reduceEq, Int.reduceLT, Int.reduceLE, Int.reduceNeg, Int.reduceAdd, Int.reduceSub, Nat.reduceBEq, awT, c27, tys, hn]
  refine ARun.fitE fun hfe => ?_
  have hfe2 := hfe 2
  simp only [envS_get, lk_cons, lk_nil, Nat.reduceBEq, Nat.reduceAdd, Nat.reduceSub, cond_true, cond_false, hn] at hfe2
  clear hfe
  by_cases hl : a.length = b.length
  case neg =>
    have hl' : decide ((a.length : Int) = (b.length : Int)) = false := decide_eq_false (by omega)
    refine ARun.go 200 ?_
    simp -implicitDefEqProofs only [awC, awN, Nat.reduceAdd, Nat.reduceSub, Nat.reduceLT, Nat.reduceLeDiff, Nat.reduceEqDiff, Int.reduceToNat, Int.reduceEq, Int.reduceLT, Int.reduceLE, Int.reduceNeg, Int.reduceAdd, Int.reduceSub, Nat.reduceBEq, awT, c27, tys, hl', hn]
    refine ARun.ret Tryd.func27 rfl (Left.none ?_)
    rw [eqF_len e a b hl]
    exact ⟨rfl, rfl⟩
  have hl' : decide ((a.length : Int) = (b.length : Int)) = true := decide_eq_true (by omega)
  refine ARun.go 30 ?_
  simp -implicitDefEqProofs only [awC, awN, Nat.reduceAdd, Nat.reduceSub, Nat.reduceLT, Nat.reduceLeDiff, Nat.reduceEqDiff, Int.reduceToNat, Int.reduceEq, Int.reduceLT, Int.reduceLE, Int.reduceNeg, Int.reduceAdd, Int.reduceSub, Nat.reduceBEq, awT, c27, tys, hl', hn]
  refine ARun.fits fun hf => ?_
  refine ARun.loopB (fun i : Nat => (envS 32 [(1, .d (.sl (b.map fuD))), (2, .func g first caps), (15, .d (.sl (a.map fuD))), (16, .d (.int .i64 a.length)), (17, .d (.int .i64 i))], ⟨B, T⟩)) (fun i => i ≤ a.length ∧ eqF e a b = eqF e (a.drop i) (b.drop i)) (fun i => a.length - i) 0 ⟨by omega, rfl⟩ ?_ rfl ?_
  · skip
    refine Agree.env _ ?_
    simp only [agree_cons, agree_nil, eq_self, and_self, true_and, and_true, Int.natCast_add, Int.natCast_one, Int.natCast_zero, envS_get, envS_eval, lk_cons, lk_nil, Nat.reduceBEq, Nat.reduceAdd, Nat.reduceSub, cond_true, cond_false, hn]
  rintro i ⟨h1, h2⟩ ih
  dsimp only at h1 h2 ih ⊢
  by_cases hlt : i < a.length
  · have hw := wrap_in ((i : Int) + 1) (by omega)
    have hltb : i < b.length := by omega
    have hga := List.getElem?_eq_getElem hlt
    have hgb := List.getElem?_eq_getElem hltb
    have hlt' : decide ((i : Int) < (a.length : Int)) = true := decide_eq_true (by omega)
    rw [eqF_step e a b i hlt hltb] at h2
    have hgx := hg a[i] (List.getElem_mem hlt) b[i] (List.getElem_mem hltb)
    obtain ⟨x, hx⟩ : ∃ x, a[i] = x := ⟨_, rfl⟩
    obtain ⟨y, hy⟩ : ∃ y, b[i] = y := ⟨_, rfl⟩
    rw [hx] at hga h2 hgx
    rw [hy] at hgb h2 hgx
    refine ARun.go 200 ?_
    simp -implicitDefEqProofs only [awC, awN, Nat.reduceAdd, Nat.reduceSub, Nat.reduceLT, Nat.reduceLeDiff, Nat.reduceEqDiff, Int.reduceToNat, Int.reduceEq, Int.reduceLT, Int.reduceLE, Int.reduceNeg, Int.reduceAdd, Int.reduceSub, Nat.reduceBEq, awT, c27, tys, hn, List.getElem?_map, hga, hgb, hlt', fuD_eq]
    refine callS_of (hgx _) ?_
    rintro _ _ ⟨rfl, rfl⟩
    refine ARun.go 200 ?_
    simp -implicitDefEqProofs only [awC, awN, Nat.reduceAdd, Nat.reduceSub, Nat.reduceLT, Nat.reduceLeDiff, Nat.reduceEqDiff, Int.reduceToNat, Int.reduceEq, Int.reduceLT, Int.reduceLE, Int.reduceNeg, Int.reduceAdd, Int.reduceSub, Nat.reduceBEq, awT, c27, tys, hn]
    cases he : e x y
    · simp -implicitDefEqProofs only [awC, awN, Nat.reduceAdd, Nat.reduceSub, Nat.reduceLT, Nat.reduceLeDiff, Nat.reduceEqDiff, Int.reduceToNat, Int.reduceEq, Int.reduceLT, Int.reduceLE, Int.reduceNeg, Int.reduceAdd, Int.reduceSub, Nat.reduceBEq, awT, c27, tys, hn, he]
      refine ARun.ret Tryd.func27 rfl (Left.box ?_)
      rw [h2, he]
      exact ⟨rfl, rfl⟩
    · simp -implicitDefEqProofs only [awC, awN, Nat.reduceAdd, Nat.reduceSub, Nat.reduceLT, Nat.reduceLeDiff, Nat.reduceEqDiff, Int.reduceToNat, Int.reduceEq, Int.reduceLT, Int.reduceLE, Int.reduceNeg, Int.reduceAdd, Int.reduceSub, Nat.reduceBEq, awT, c27, tys, hn, he, hw]
      rw [he, Bool.true_and] at h2
      refine ih (i + 1) ⟨hlt, h2⟩ (by omega) _ _ _ _ rfl ⟨by omega, Nat.le_refl _⟩ hf ?_
      refine AgreeF.env _ ?_
      simp only [agreeF_cons, agreeF_nil, fit, fitL, eq_self, and_self, true_and, and_true, Bool.and_true, Bool.true_and, Bool.and_self, decide_true, List.length_set, Int.natCast_add, Int.natCast_one, Int.natCast_zero, envS_get, envS_eval, lk_cons, lk_nil, Nat.reduceBEq, Nat.reduceAdd, Nat.reduceSub, cond_true, cond_false, hn]
      exact hfe2
  · have hlt' : decide ((i : Int) < (a.length : Int)) = false := decide_eq_false (by omega)
    refine ARun.go 200 ?_
    simp -implicitDefEqProofs only [awC, awN, Nat.reduceAdd, Nat.reduceSub, Nat.reduceLT, Nat.reduceLeDiff, Nat.reduceEqDiff, Int.reduceToNat, Int.reduceEq, Int.reduceLT, Int.reduceLE, Int.reduceNeg, Int.reduceAdd, Int.reduceSub, Nat.reduceBEq, awT, c27, tys, hn, hlt']
    refine ARun.ret Tryd.func27 rfl (Left.none ?_)
    rw [h2, eqF_end e a b i (by omega) (by omega)]
    exact ⟨rfl, rfl⟩
end Go.Proofs.YtombghldgdcjcaaDoor

/- Which trees are alike: plain. -/
namespace Go.Proofs.YtombghldgdcjcaaDoor
open Go.RowKit Go.Av Go.Ab

mutual
def eqT : TyT → TyT → Bool
  | .mk k n es, .mk k' n' es' => decide (k = k') && (decide (n = n') && eqTs es es')
def eqTs : List TyT → List TyT → Bool
  | [], [] => true
  | t :: a, u :: b => eqT t u && eqTs a b
  | [], _ :: _ => false
  | _ :: _, [] => false
end
mutual
def eqE : ExT → ExT → Bool
  | .mk k t i ty ns ks, .mk k' t' i' ty' ns' ks' => decide (k = k') && (decide (t = t') && (decide (i = i') && (eqT ty ty' && (decide (ns = ns') && eqEs ks ks'))))
def eqEs : List ExT → List ExT → Bool
  | [], [] => true
  | t :: a, u :: b => eqE t u && eqEs a b
  | [], _ :: _ => false
  | _ :: _, [] => false
end
mutual
def eqSt : StT → StT → Bool
  | .mk k ns ty ls es b e cs, .mk k' ns' ty' ls' es' b' e' cs' => decide (k = k') && (decide (ns = ns') && (eqT ty ty' && (eqEs ls ls' && (eqEs es es' && (eqSts b b' && (eqSts e e' && eqCas cs cs'))))))
def eqSts : List StT → List StT → Bool
  | [], [] => true
  | t :: a, u :: b => eqSt t u && eqSts a b
  | [], _ :: _ => false
  | _ :: _, [] => false
def eqCa : CaT → CaT → Bool
  | .mk i b, .mk i' b' => decide (i = i') && eqSts b b'
def eqCas : List CaT → List CaT → Bool
  | [], [] => true
  | t :: a, u :: b => eqCa t u && eqCas a b
  | [], _ :: _ => false
  | _ :: _, [] => false
end
def eqPa (p q : PaT) : Bool := decide (p.name = q.name) && eqT p.type q.type
def eqSu (p q : SuT) : Bool := decide (p.name = q.name) && eqF eqPa p.fields q.fields
def eqFu (p q : FuT) : Bool := decide (p.name = q.name) && (eqF eqPa p.params q.params && (eqF eqT p.results q.results && eqF eqSt p.body q.body))
/-- Are two programs alike? -/
def eqPr (p q : PrT) : Bool := eqF eqSu p.structs q.structs && eqF eqFu p.funcs q.funcs

theorem eqTs_F : ∀ a b : List TyT, eqTs a b = eqF eqT a b
  | [], [] => by rw [eqTs, eqF]
  | t :: a, u :: b => by rw [eqTs, eqF, eqTs_F a b]
  | [], _ :: _ => by rw [eqTs, eqF] <;> simp
  | _ :: _, [] => by rw [eqTs, eqF] <;> simp
theorem eqEs_F : ∀ a b : List ExT, eqEs a b = eqF eqE a b
  | [], [] => by rw [eqEs, eqF]
  | t :: a, u :: b => by rw [eqEs, eqF, eqEs_F a b]
  | [], _ :: _ => by rw [eqEs, eqF] <;> simp
  | _ :: _, [] => by rw [eqEs, eqF] <;> simp
theorem eqSts_F : ∀ a b : List StT, eqSts a b = eqF eqSt a b
  | [], [] => by rw [eqSts, eqF]
  | t :: a, u :: b => by rw [eqSts, eqF, eqSts_F a b]
  | [], _ :: _ => by rw [eqSts, eqF] <;> simp
  | _ :: _, [] => by rw [eqSts, eqF] <;> simp
theorem eqCas_F : ∀ a b : List CaT, eqCas a b = eqF eqCa a b
  | [], [] => by rw [eqCas, eqF]
  | t :: a, u :: b => by rw [eqCas, eqF, eqCas_F a b]
  | [], _ :: _ => by rw [eqCas, eqF] <;> simp
  | _ :: _, [] => by rw [eqCas, eqF] <;> simp
theorem eqT_mk (t u : TyT) : eqT t u = (decide (t.kind = u.kind) && (decide (t.name = u.name) && eqF eqT t.elem u.elem)) := by
  cases t; cases u
  rw [eqT, eqTs_F]
  rfl
theorem eqE_mk (t u : ExT) : eqE t u = (decide (t.kind = u.kind) && (decide (t.text = u.text) && (decide (t.int = u.int) && (eqT t.type u.type && (decide (t.names = u.names) && eqF eqE t.kids u.kids))))) := by
  cases t; cases u
  rw [eqE, eqEs_F]
  rfl
theorem eqSt_mk (t u : StT) : eqSt t u = (decide (t.kind = u.kind) && (decide (t.names = u.names) && (eqT t.type u.type && (eqF eqE t.lefts u.lefts && (eqF eqE t.exprs u.exprs && (eqF eqSt t.body u.body && (eqF eqSt t.els u.els && eqF eqCa t.cases u.cases))))))) := by
  cases t; cases u
  rw [eqSt, eqEs_F, eqEs_F, eqSts_F, eqSts_F, eqCas_F]
  rfl
theorem eqCa_mk (t u : CaT) : eqCa t u = (decide (t.int = u.int) && eqF eqSt t.body u.body) := by
  cases t; cases u
  rw [eqCa, eqSts_F]
  rfl
end Go.Proofs.YtombghldgdcjcaaDoor

