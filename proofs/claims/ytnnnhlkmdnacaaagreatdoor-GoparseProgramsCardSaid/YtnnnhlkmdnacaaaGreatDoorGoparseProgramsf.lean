/- GoparsePrograms: the parser of the small language answers as the document's, for any bytes; no condition. Part 6 of 6 of the proof. -/
import Derived.Test.YtnnnhlkmdnacaaaGreatDoorGoparseProgramse
import Derived.OpenShut
import Derived.ChangeArms
import Derived.Test.YtnnnhlkmdnacaaaGreatDoorRows
import Derived.ProofKit
import Derived.ShutString
import Derived.Deep.DeepHandedRow
import Derived.Carry
import Derived.Lib.LaidTab
import Derived.LaidLaws
import Derived.WalkKit
import Derived.Test.YtnnnhlkmdnacaaaGreatDoorCards
import Derived.Test.YtnnnhlkmdnacaaaGreatDoorTie
import Derived.Lay
namespace Go.Proofs.YtnnnhlkmdnacaaaGreatDoor
open Go.RowKit Go.Av Go.Ab
set_option linter.unusedSimpArgs false
set_option maxRecDepth 100000
set_option linter.defProp false
def c117 := by
 have c := KK_of Tryz.f117 (by conv => lhs; cbv)
 dsimp only [KK, KxP, doO, opO, List.map_cons, List.map_nil, List.toList_toArray] at c
 exact c
theorem b117 : FnIs Tryz.prog 117 Tryz.f117 97 := ⟨Tryz.func117, by kernel_rfl⟩
def c90 := by
 have c := KK_of Tryz.f90 (by conv => lhs; cbv)
 dsimp only [KK, KxP, doO, opO, List.map_cons, List.map_nil, List.toList_toArray] at c
 exact c
theorem b90 : FnIs Tryz.prog 90 Tryz.f90 22 := ⟨Tryz.func90, by kernel_rfl⟩
theorem stR_le : ∀ (n : Nat) (s : StT) (d : Int), -1 ≤ stR n s d ∧ stR n s d ≤ 60000
 | 0, _, _ => by unfold stR; omega
 | n + 1, s, d => by unfold stR; exact plusM_in _ _
theorem sumM_le {α : Type} (f : α → Int) : ∀ l : List α, -1 ≤ sumM f l ∧ sumM f l ≤ 60000
 | [] => by unfold sumM; omega
 | x :: l => by unfold sumM; exact plusM_in _ _
theorem sumM_drop {α : Type} (f : α → Int) (l : List α) (i : Nat) (h : i < l.length) : sumM f (l.drop i) = plusM (f l[i]) (sumM f (l.drop (i + 1))) := by
 rw [drop_get h]
 conv => lhs; unfold sumM
theorem xs40_le (l : List ExT) (d : Int) : -1 ≤ xs40R l d ∧ xs40R l d ≤ 60000 := by
 have := exsR_le l d
 unfold xs40R
 split <;> omega
def StmR (n : Nat) (s : StT) : Prop := ∀ (d : Int) (B : List (List V)) (T : List (Nat × Nat)), 0 ≤ d → d ≤ 62 → AFn Tryz.prog TabI 117 [stV s, .d (.int .i64 d)] ⟨B, T⟩ (Same (.d (.int .i64 (stR n s d))) ⟨B, T⟩)
set_option maxHeartbeats 4000000 in
theorem stms_ab (n : Nat) (l : List StT) (hl : ∀ s ∈ l, StmR n s) (d : Int) (hd0 : 0 ≤ d) (hd : d ≤ 62) (B : List (List V)) (T : List (Nat × Nat)) : AFn Tryz.prog TabI 90 [.d (.sl (l.map stD)), .d (.int .i64 d)] ⟨B, T⟩ (Same (.d (.int .i64 (sumM (fun s => stR n s d) l))) ⟨B, T⟩) := by
 refine b90.go 40 rfl fun hsm => ?_
 simp only [smw] at hsm
 simp only [W, seval, c90]
 refine ARun.loopW (fun a : Nat × Int => (envS 22 [(0, .d (.sl (l.map stD))), (1, .d (.int .i64 d)), (5, .d (.int .i64 a.2)), (6, .d (.int .i64 (a.1 : Int)))], ⟨B, T⟩)) (fun a => a.1 ≤ l.length ∧ -1 ≤ a.2 ∧ a.2 ≤ 60000 ∧ plusM a.2 (sumM (fun s => stR n s d) (l.drop a.1)) = sumM (fun s => stR n s d) l) (fun a => l.length - a.1) (0, 0) ⟨by simp, by decide, by decide, zero_plusM (sumM_le _ l).1 (sumM_le _ l).2⟩ ?_ rfl ?_
 ·skip
  refine Agree.env _ ?_
  simp only [agw, seval]
 rintro ⟨i, q⟩ ⟨h1, h2, h3, h4⟩ ih
 dsimp only at h1 h2 h3 h4 ih ⊢
 by_cases hlt : i < l.length
 case neg =>
  have e1 : decide ((i : Int) < (l.length : Int)) = false := decide_eq_false (by omega)
  rw [List.drop_eq_nil_of_le (by omega)] at h4
  have h5 : sumM (fun s => stR n s d) [] = 0 := rfl
  rw [h5, plusM_zero h2 h3] at h4
  rw [← h4]
  refine ARun.go 60 ?_
  simp only [W, seval, c90, e1]
  refine ARun.ret Tryz.func90 rfl (Left.none ?_)
  exact ⟨rfl, rfl⟩
 have e1 : decide ((i : Int) < (l.length : Int)) = true := decide_eq_true (by omega)
 have hwi := wrap_in ((i : Int) + 1) (by omega)
 have hg : (l.map stD)[i]? = some (stD l[i]) := by simp [hlt]
 have hy := hl l[i] (List.getElem_mem hlt) d B T hd0 hd
 have hle := stR_le n l[i] d
 rw [sumM_drop _ l i hlt, ← plusM_assoc] at h4
 obtain ⟨y, hyy⟩ : ∃ y, l[i] = y := ⟨_, rfl⟩
 rw [hyy] at hg hy hle h4
 rw [stD_eq] at hg
 unfold stV at hy
 refine ARun.go 60 ?_
 simp only [W, seval, c90, e1, hg, hlt]
 refine callS_fn hy ?_
 rintro _ _ ⟨rfl, rfl⟩
 refine ARun.go 20 ?_
 simp only [W, seval, c90]
 refine callS_fn (plus_ab q _ h3 hle.2 _ _) ?_
 rintro _ _ ⟨rfl, rfl⟩
 have hpi := plusM_in q (stR n y d)
 refine ARun.go 20 ?_
 simp only [W, seval, c90, hwi]
 refine ih (i + 1, plusM q (stR n y d)) ⟨by dsimp only; omega, hpi.1, hpi.2, h4⟩ (by dsimp only; omega) _ _ ?_ rfl
 refine Agree.env _ ?_
 simp only [agw, seval]
def tailR (n : Nat) (s : StT) (d : Int) : Int := plusM (xs40R s.lefts (d + 1)) (plusM (xs40R s.exprs (d + 1)) (plusM (sumM (fun x => stR n x (d + 1)) s.body) (sumM (fun x => stR n x (d + 1)) s.els)))
set_option maxHeartbeats 4000000 in
theorem stm_e (n : Nat) (s : StT) (h1 : ∀ x ∈ s.body, StmR n x) (h2 : ∀ x ∈ s.els, StmR n x) (d q : Int) (hd0 : 0 ≤ d) (hd : d ≤ 60) (hq1 : q ≤ 60000) (N : Nat) (B : List (List V)) (T : List (Nat × Nat)) (hn : B.length = N) :
 ARun Tryz.prog TabI (N, T.length) 117 [.code (kF Tryz.f117 62)] (envS 97 [(1, .d (.int .i64 d)), (2, .ptr N 0), (5, .d (.int .i64 q))]) ⟨B ++ [stB s], T⟩ (Ab.Left ⟨B, T⟩ (Same (.d (.int .i64 (plusM q (tailR n s d)))) ⟨B, T⟩)) := by
 have hw := wrap_in (d + 1) (by omega)
 have l1 := xs40_le s.lefts (d + 1)
 have l2 := xs40_le s.exprs (d + 1)
 have l3 := sumM_le (fun x => stR n x (d + 1)) s.body
 have l4 := sumM_le (fun x => stR n x (d + 1)) s.els
 have l5 := plusM_in (xs40R s.lefts (d + 1)) (xs40R s.exprs (d + 1))
 have l6 := plusM_in (sumM (fun x => stR n x (d + 1)) s.body) (sumM (fun x => stR n x (d + 1)) s.els)
 have l7 := plusM_in q (plusM (xs40R s.lefts (d + 1)) (xs40R s.exprs (d + 1)))
 have hfin : plusM q (tailR n s d) = plusM (plusM q (plusM (xs40R s.lefts (d + 1)) (xs40R s.exprs (d + 1)))) (plusM (sumM (fun x => stR n x (d + 1)) s.body) (sumM (fun x => stR n x (d + 1)) s.els)) := by
  unfold tailR
  simp only [plusM_assoc]
 rw [hfin]
 unfold stB
 refine ARun.go 9 ?_
 simp only [W, seval, c117]
 refine ARun.draw (by kernel_rfl) (by kernel_rfl) (lexQ_ok 60 _ _ ?_)
 simp only [W, seval, c117, hn, hw]
 refine ⟨_, exps_ab s.lefts (d + 1) (by omega) (by omega) _ _, ?_⟩
 refine ⟨_, exps_ab s.exprs (d + 1) (by omega) (by omega) _ _, ?_⟩
 refine ⟨_, plus_ab _ _ l1.2 l2.2 _ _, ?_⟩
 refine ⟨_, plus_ab _ _ hq1 l5.2 _ _, ?_⟩
 refine ARun.go 9 ?_
 simp only [W, seval, c117]
 refine ARun.draw (by kernel_rfl) (by kernel_rfl) (lexQ_ok 60 _ _ ?_)
 simp only [W, seval, c117, hn, hw]
 refine ⟨_, stms_ab n s.body h1 (d + 1) (by omega) (by omega) _ _, ?_⟩
 refine ⟨_, stms_ab n s.els h2 (d + 1) (by omega) (by omega) _ _, ?_⟩
 refine ⟨_, plus_ab _ _ l3.2 l4.2 _ _, ?_⟩
 refine ⟨_, plus_ab _ _ l7.2 l6.2 _ _, ?_⟩
 refine ARun.go 9 ?_
 simp only [W, seval, c117]
 refine ARun.ret Tryz.func117 rfl (Left.box ?_)
 exact ⟨rfl, rfl⟩
theorem bad_all (q b : Int) : plusM q (plusM (-1) b) = -1 := by rw [plusM_bad, bad_plusM]
set_option maxHeartbeats 8000000 in
theorem stm_c (n : Nat) (s : StT) (h1 : ∀ x ∈ s.body, StmR n x) (h2 : ∀ x ∈ s.els, StmR n x) (h3 : ∀ c ∈ s.cases, ∀ x ∈ c.body, StmR n x) (hc40 : s.cases.length ≤ 40) (d q0 : Int) (hd0 : 0 ≤ d) (hd : d ≤ 60) (hq0 : -1 ≤ q0) (hq1 : q0 ≤ 60000) (N : Nat) (B : List (List V)) (T : List (Nat × Nat)) (hn : B.length = N) :
 ARun Tryz.prog TabI (N, T.length) 117 [.code (kF Tryz.f117 18)] (envS 97 [(1, .d (.int .i64 d)), (2, .ptr N 0), (5, .d (.int .i64 q0))]) ⟨B ++ [stB s], T⟩ (Ab.Left ⟨B, T⟩ (Same (.d (.int .i64 (plusM (plusM q0 (casR (stR n) d [] s.cases)) (tailR n s d)))) ⟨B, T⟩)) := by
 have hw1 := wrap_in (d + 1) (by omega)
 have hw2 := wrap_in (d + 2) (by omega)
 refine ARun.go 1 ?_
 simp only [W, seval, c117]
 refine ARun.after [_] _ (fun a : Int => (envS 97 [(1, .d (.int .i64 d)), (2, .ptr N 0), (5, .d (.int .i64 a))], ⟨B ++ [stB s], T⟩)) (fun a => a = plusM q0 (casR (stR n) d [] s.cases)) ?_ ?_
 ·rintro a rfl
  exact stm_e n s h1 h2 d _ hd0 hd (plusM_in _ _).2 N B T hn
 intro K' hend
 unfold stB at hend ⊢
 refine ARun.goK 6 ?_
 simp only [W, seval, c117]
 refine ARun.loopW (fun a : Nat × Int => (envS 97 [(1, .d (.int .i64 d)), (2, .ptr N 0), (5, .d (.int .i64 a.2)), (6, .d (.int .i64 (a.1 : Int)))], ⟨B ++ [stB s], T⟩)) (fun a => a.1 ≤ s.cases.length ∧ -1 ≤ a.2 ∧ a.2 ≤ 60000 ∧ plusM a.2 (casR (stR n) d ((s.cases.take a.1).map CaT.int) (s.cases.drop a.1)) = plusM q0 (casR (stR n) d [] s.cases)) (fun a => s.cases.length - a.1) (0, q0) ⟨by simp, hq0, hq1, rfl⟩ ?_ rfl ?_
 ·skip
  refine Agree.env _ ?_
  simp only [agw, seval]
 rintro ⟨i, q⟩ ⟨g1, g2, g3, g4⟩ ih
 dsimp only at g1 g2 g3 g4 ih ⊢
 unfold stB at ih ⊢
 by_cases hlt : i < s.cases.length
 case neg =>
  have e1 : decide ((i : Int) < (s.cases.length : Int)) = false := decide_eq_false (by omega)
  rw [List.drop_eq_nil_of_le (by omega)] at g4
  have h5 : ∀ l, casR (stR n) d l [] = 0 := fun l => by unfold casR; rfl
  rw [h5, plusM_zero g2 g3] at g4
  refine ARun.goK (k := [_, _, _]) 60 ?_
  simp only [W, seval, c117, hn, e1]
  refine hend q g4 _ _ ?_ rfl
  refine Agree.env _ ?_
  simp only [agw, seval]
 have e1 : decide ((i : Int) < (s.cases.length : Int)) = true := decide_eq_true (by omega)
 have hwi := wrap_in ((i : Int) + 1) (by omega)
 rw [drop_get hlt] at g4
 have hgi : (s.cases.map caD)[i]? = some [.int .u64 s.cases[i].int, .sl (s.cases[i].body.map stD)] := by simp [hlt, caD_eq]
 obtain ⟨c, hc⟩ : ∃ c, s.cases[i] = c := ⟨_, rfl⟩
 have hcm : c ∈ s.cases := hc ▸ List.getElem_mem hlt
 have hcas : ∀ (seen : List Int) (l : List CaT), casR (stR n) d seen (c :: l) = plusM (if 60 < d + 1 then -1 else 1) (plusM (zM (!seen.contains c.int)) (plusM (sumM (fun s => stR n s (d + 2)) c.body) (casR (stR n) d (seen ++ [c.int]) l))) := fun _ _ => rfl
 rw [hc] at hgi
 rw [hc, hcas] at g4
 by_cases hd1 : 60 < d + 1
 ·have e2 := decide_eq_true hd1
  rw [if_pos hd1, bad_all] at g4
  rw [← g4, plusM_bad]
  refine ARun.goK (k := [_, _]) 60 ?_
  simp only [W, seval, c117, hn, e1, hw1, e2]
  refine ARun.ret Tryz.func117 rfl (Left.box ?_)
  exact ⟨rfl, rfl⟩
 have e2 := decide_eq_false hd1
 rw [if_neg hd1] at g4
 refine ARun.goK (k := [_, _]) 23 ?_
 simp only [W, seval, c117, hn, e1, hw1, e2]
 refine ARun.after [_] _ (fun _ : Unit => (envS 97 [(1, .d (.int .i64 d)), (2, .ptr N 0), (5, .d (.int .i64 q)), (6, .d (.int .i64 (i : Int)))], ⟨B ++ [stB s], T⟩)) (fun _ => ((s.cases.take i).map CaT.int).contains c.int = false) ?_ ?_
 ·rintro ⟨⟩ hs
  rw [hs] at g4
  have hz : zM (!false) = 0 := rfl
  have lS := sumM_le (fun s => stR n s (d + 2)) c.body
  have lp := plusM_in 1 (sumM (fun s => stR n s (d + 2)) c.body)
  have lq := plusM_in q (plusM 1 (sumM (fun s => stR n s (d + 2)) c.body))
  have ht : ((s.cases.take (i + 1)).map CaT.int) = (s.cases.take i).map CaT.int ++ [c.int] := by
   rw [List.take_succ_eq_append_getElem hlt, hc]
   simp
  rw [hz, zero_plusM (plusM_in _ _).1 (plusM_in _ _).2, ← plusM_assoc 1, ← plusM_assoc q, ← ht] at g4
  have hst := stms_ab n c.body (h3 c hcm) (d + 2) (by omega) (by omega) (B ++ [stB s]) T
  unfold stB at hst ⊢
  refine ARun.goK (k := [_]) 20 ?_
  simp only [W, seval, c117, hn, hw2, hgi, hlt]
  refine callS_fn hst ?_
  rintro _ _ ⟨rfl, rfl⟩
  refine ARun.goK (k := [_]) 2 ?_
  simp only [W, seval, c117, hn]
  refine callS_fn (plus_ab 1 _ (by omega) lS.2 _ _) ?_
  rintro _ _ ⟨rfl, rfl⟩
  refine ARun.goK (k := [_]) 2 ?_
  simp only [W, seval, c117, hn]
  refine callS_fn (plus_ab q _ g3 lp.2 _ _) ?_
  rintro _ _ ⟨rfl, rfl⟩
  refine ARun.goK (k := [_, _, _]) 12 ?_
  simp only [W, seval, c117, hn, hwi]
  refine ih (i + 1, plusM q (plusM 1 (sumM (fun s => stR n s (d + 2)) c.body))) ⟨by dsimp only; omega, lq.1, lq.2, g4⟩ (by dsimp only; omega) _ _ ?_ rfl
  refine Agree.env _ ?_
  simp only [agw, seval]
 intro K2 hend2
 unfold stB at hend2
 refine ARun.goK (k := [_]) 6 ?_
 simp only [W, seval, c117]
 refine ARun.loopW (fun j : Nat => (envS 97 [(1, .d (.int .i64 d)), (2, .ptr N 0), (5, .d (.int .i64 q)), (6, .d (.int .i64 (i : Int))), (7, .d (.int .i64 (j : Int)))], ⟨B ++ [stB s], T⟩)) (fun j => j ≤ i ∧ ((s.cases.take j).map CaT.int).contains c.int = false) (fun j => i - j) 0 ⟨by omega, rfl⟩ ?_ rfl ?_
 ·skip
  refine Agree.env _ ?_
  simp only [agw, seval]
 rintro j ⟨m1, m2⟩ ih2
 dsimp only at m1 m2 ih2 ⊢
 unfold stB at ih2 ⊢
 by_cases hj : j < i
 case neg =>
  have e3 : decide ((j : Int) < (i : Int)) = false := decide_eq_false (by omega)
  obtain rfl : j = i := by omega
  refine ARun.goK (k := [_, _, _]) 60 ?_
  simp only [W, seval, c117, hn, e3]
  refine hend2 () m2 _ _ ?_ rfl
  refine Agree.env _ ?_
  simp only [agw, seval]
 have e3 : decide ((j : Int) < (i : Int)) = true := decide_eq_true (by omega)
 have hwj := wrap_in ((j : Int) + 1) (by omega)
 have hjl : j < s.cases.length := by omega
 have hgj : (s.cases.map caD)[j]? = some [.int .u64 s.cases[j].int, .sl (s.cases[j].body.map stD)] := by simp [hjl, caD_eq]
 have ht : ((s.cases.take (j + 1)).map CaT.int) = (s.cases.take j).map CaT.int ++ [s.cases[j].int] := by
  rw [List.take_succ_eq_append_getElem hjl, List.map_append]
  rfl
 refine ARun.goK (k := [_, _]) 20 ?_
 simp only [W, seval, c117, hn, e3]
 refine ARun.draw (by kernel_rfl) (by kernel_rfl) (lexQ_ok 60 _ _ ?_)
 simp only [W, seval, c117, hn, hgj, hgi, hjl, hlt]
 cases he : decide (s.cases[j].int = c.int)
 case true =>
  have hct : ((s.cases.take i).map CaT.int).contains c.int = true := by
   rw [List.contains_iff_mem, ← of_decide_eq_true he]
   refine List.mem_map.2 ⟨s.cases[j], ?_, rfl⟩
   rw [List.mem_take_iff_getElem]
   exact ⟨j, by omega, rfl⟩
  have hz : zM (!true) = -1 := rfl
  rw [hct, hz, plusM_bad, bad_plusM, bad_plusM] at g4
  rw [← g4, plusM_bad]
  refine ARun.goK (k := [_, _, _]) 20 ?_
  simp only [W, seval, c117, hn, he]
  refine ARun.ret Tryz.func117 rfl (Left.box ?_)
  exact ⟨rfl, rfl⟩
 have hne : (c.int == s.cases[j].int) = false := beq_eq_false_iff_ne.2 fun e => of_decide_eq_false he e.symm
 have hm : ((s.cases.take (j + 1)).map CaT.int).contains c.int = false := by
  rw [ht]
  simp only [List.contains_append, m2, Bool.false_or, List.contains_cons, List.contains_nil, hne, Bool.or_false]
 refine ARun.goK (k := [_, _, _]) 20 ?_
 simp only [W, seval, c117, hn, he, hwj]
 refine ih2 (j + 1) ⟨by omega, hm⟩ (by omega) _ _ ?_ rfl
 refine Agree.env _ ?_
 simp only [agw, seval]
set_option maxHeartbeats 8000000 in
theorem stm_step (n : Nat) (s : StT) (h1 : ∀ x ∈ s.body, StmR n x) (h2 : ∀ x ∈ s.els, StmR n x) (h3 : ∀ c ∈ s.cases, ∀ x ∈ c.body, StmR n x) : StmR (n + 1) s := by
 intro d B T hd0 hd1
 obtain ⟨N, hn⟩ : ∃ N, B.length = N := ⟨_, rfl⟩
 have hR : stR (n + 1) s d = plusM (if 60 < d then -1 else 1) (plusM (zM (shapeR s && decide (s.cases.length ≤ 40))) (restR (stR n) s d)) := rfl
 rw [hR]
 unfold stV
 refine b117.go 6 rfl fun hsm => ?_
 simp only [smw] at hsm
 simp only [W, seval, c117, hn]
 change ARun _ _ _ _ _ _ ⟨B ++ [stB s], T⟩ _
 refine ARun.after [_] _ (fun _ : Unit => (envS 97 [(1, .d (.int .i64 d)), (2, .ptr N 0)], ⟨B ++ [stB s], T⟩)) (fun _ => ¬ 60 < d ∧ (shapeR s && decide (s.cases.length ≤ 40)) = true) ?_ ?_
 case refine_2 =>
  intro K' hend
  unfold stB at hend ⊢
  by_cases hd : 60 < d
  ·have e := decide_eq_true hd
   rw [if_pos hd, plusM_bad]
   refine ARun.goK 60 ?_
   simp only [W, seval, c117, hn, e]
   refine ARun.ret Tryz.func117 rfl (Left.box ?_)
   exact ⟨rfl, rfl⟩
  have e := decide_eq_false hd
  have hsh := shape_ab s (B ++ [stB s]) T
  unfold stV stB at hsh
  refine ARun.goK 60 ?_
  simp only [W, seval, c117, hn, e]
  refine callS_fn hsh ?_
  rintro _ _ ⟨rfl, rfl⟩
  have hz : zM false = -1 := rfl
  cases hb : shapeR s
  ·rw [Bool.false_and, hz, plusM_bad, bad_plusM]
   refine ARun.goK 60 ?_
   simp only [W, seval, c117, hn]
   refine ARun.ret Tryz.func117 rfl (Left.box ?_)
   exact ⟨rfl, rfl⟩
  rw [hb] at hend
  by_cases h40 : s.cases.length ≤ 40
  ·have e4 : decide ((40 : Int) < (s.cases.length : Int)) = false := decide_eq_false (by omega)
   refine ARun.goK 60 ?_
   simp only [W, seval, c117, hn, e4]
   refine hend () ⟨hd, by rw [decide_eq_true h40]; rfl⟩ _ _ ?_ rfl
   refine Agree.env _ ?_
   simp only [agw, seval]
  ·have e4 : decide ((40 : Int) < (s.cases.length : Int)) = true := decide_eq_true (by omega)
   rw [decide_eq_false h40, Bool.and_false, hz, plusM_bad, bad_plusM]
   refine ARun.goK 60 ?_
   simp only [W, seval, c117, hn, e4]
   refine ARun.ret Tryz.func117 rfl (Left.box ?_)
   exact ⟨rfl, rfl⟩
 rintro ⟨⟩ ⟨hd, hs⟩
 have hc40 : s.cases.length ≤ 40 := of_decide_eq_true (Bool.and_eq_true_iff.1 hs).2
 have hz : zM true = 0 := rfl
 have hw1 := wrap_in (d + 1) (by omega)
 have htl : restR (stR n) s d = plusM (if s.kind = 1 then tyR s.type (d + 1) else 0) (plusM (casR (stR n) d [] s.cases) (tailR n s d)) := rfl
 rw [if_neg hd, hs, hz, zero_plusM (by rw [htl]; exact (plusM_in _ _).1) (by rw [htl]; exact (plusM_in _ _).2), htl, ← plusM_assoc, ← plusM_assoc]
 refine ARun.go 5 ?_
 simp only [W, seval, c117]
 refine ARun.after [_] _ (fun a : Int => (envS 97 [(1, .d (.int .i64 d)), (2, .ptr N 0), (5, .d (.int .i64 a))], ⟨B ++ [stB s], T⟩)) (fun a => a = plusM 1 (if s.kind = 1 then tyR s.type (d + 1) else 0)) ?_ ?_
 ·rintro a rfl
  exact stm_c n s h1 h2 h3 hc40 d _ hd0 (by omega) (plusM_in _ _).1 (plusM_in _ _).2 N B T hn
 intro K' hend
 unfold stB at hend ⊢
 by_cases hk : s.kind = 1
 ·have ek := decide_eq_true hk
  have hty := typR_ab s.type (d + 1) (B ++ [stB s]) T (by omega) (by omega)
  have hle := tyR_le s.type (d + 1)
  unfold tyV stB at hty
  refine ARun.goK 40 ?_
  simp only [W, seval, c117, hn, ek, hw1]
  refine callS_fn hty ?_
  rintro _ _ ⟨rfl, rfl⟩
  refine ARun.goK 40 ?_
  simp only [W, seval, c117, hn]
  refine callS_fn (plus_ab 1 _ (by omega) hle _ _) ?_
  rintro _ _ ⟨rfl, rfl⟩
  refine ARun.goK 40 ?_
  simp only [W, seval, c117, hn]
  refine hend _ (by rw [if_pos hk]) _ _ ?_ rfl
  refine Agree.env _ ?_
  simp only [agw, seval]
 ·have ek := decide_eq_false hk
  refine ARun.goK 40 ?_
  simp only [W, seval, c117, hn, ek]
  refine hend 1 (by rw [if_neg hk]; rfl) _ _ ?_ rfl
  refine Agree.env _ ?_
  simp only [agw, seval]
theorem stmR_ab : ∀ (n : Nat) (s : StT), Dp n s → StmR n s
 | 0, _, h => h.elim
 | n + 1, s, h => stm_step n s (fun x hx => stmR_ab n x (h.1 x hx)) (fun x hx => stmR_ab n x (h.2.1 x hx)) (fun k hk x hx => stmR_ab n x (h.2.2 k hk x hx))
def c88 := by
 have c := KK_of Tryz.f88 (by conv => lhs; cbv)
 dsimp only [KK, KxP, doO, opO, List.map_cons, List.map_nil, List.toList_toArray] at c
 exact c
theorem b88 : FnIs Tryz.prog 88 Tryz.f88 39 := ⟨Tryz.func88, by kernel_rfl⟩
def c59 := by
 have c := KK_of Tryz.f59 (by conv => lhs; cbv)
 dsimp only [KK, KxP, doO, opO, List.map_cons, List.map_nil, List.toList_toArray] at c
 exact c
theorem b59 : FnIs Tryz.prog 59 Tryz.f59 88 := ⟨Tryz.func59, by kernel_rfl⟩
def c31 := by
 have c := KK_of Tryz.f31 (by conv => lhs; cbv)
 dsimp only [KK, KxP, doO, opO, List.map_cons, List.map_nil, List.toList_toArray] at c
 exact c
theorem b31 : FnIs Tryz.prog 31 Tryz.f31 6 := ⟨Tryz.func31, by kernel_rfl⟩
def paS1 (x : PaT) : Int := plusM 1 (tyR x.type 0)
set_option maxHeartbeats 8000000 in
theorem paramsR_ab (most : Nat) (hmost : most ≤ 1000) (l : List PaT) (B : List (List V)) (T : List (Nat × Nat)) : AFn Tryz.prog TabI 88 [.d (.sl (l.map paD)), .d (.int .i64 (most : Int))] ⟨B, T⟩ (Same (.d (.int .i64 (paR most l))) ⟨B, T⟩) := by
 obtain ⟨t, ht⟩ : ∃ t, T.length = t := ⟨_, rfl⟩
 have hP : paR most l = plusM (sumM paS1 l) (zM (decide (l.length ≤ most) && diffS l.length (l.map PaT.name))) := rfl
 have hz : zM false = -1 := rfl
 have hz1 : zM true = 0 := rfl
 have hsl := sumM_le paS1 l
 rw [hP]
 by_cases hm : l.length ≤ most
 case neg =>
  have e : decide ((most : Int) < (l.length : Int)) = true := decide_eq_true (by omega)
  rw [decide_eq_false hm, Bool.false_and, hz, bad_plusM]
  refine b88.go 40 rfl fun hsm => ?_
  simp only [smw] at hsm
  simp only [W, seval, c88, e]
  refine ARun.ret Tryz.func88 rfl (Left.none ?_)
  exact ⟨rfl, rfl⟩
 have e : decide ((most : Int) < (l.length : Int)) = false := decide_eq_false (by omega)
 rw [decide_eq_true hm, Bool.true_and]
 refine b88.go 40 rfl fun hsm => ?_
 simp only [smw] at hsm
 simp only [W, seval, c88, e]
 refine ARun.token 5 [] (by rfl) 1 (by omega) rfl ?_
 simp only [envS_put, ht, List.length_nil]
 refine ARun.loopW (fun a : Nat × Int => (envS 39 [(0, .d (.sl (l.map paD))), (5, .sl (ssD ((l.take a.1).map PaT.name)) (.own t)), (6, .d (.int .i64 a.2)), (7, .d (.int .i64 (a.1 : Int)))], ⟨B, T ++ [(a.1, 1)]⟩)) (fun a => a.1 ≤ l.length ∧ -1 ≤ a.2 ∧ a.2 ≤ 60000 ∧ plusM a.2 (sumM paS1 (l.drop a.1)) = sumM paS1 l) (fun a => l.length - a.1) (0, 0) ⟨by simp, by decide, by decide, zero_plusM hsl.1 hsl.2⟩ ?_ rfl ?_
 ·skip
  refine Agree.env _ ?_
  simp only [agw, seval]
  try rfl
 rintro ⟨i, q⟩ ⟨h1, h2, h3, h4⟩ ih
 dsimp only at h1 h2 h3 h4 ih ⊢
 by_cases hlt : i < l.length
 case neg =>
  have e1 : decide ((i : Int) < (l.length : Int)) = false := decide_eq_false (by omega)
  obtain rfl : i = l.length := by omega
  rw [List.drop_eq_nil_of_le (by omega)] at h4
  have h5 : sumM paS1 [] = 0 := rfl
  rw [h5, plusM_zero h2 h3] at h4
  rw [← h4]
  have hall : l.take l.length = l := List.take_length
  rw [hall]
  have hid := AFn.sameW (idents_ab (l.map PaT.name) [] []).only (args := [.sl (ssD (l.map PaT.name)) (.own t)]) (by simp [wkL, wk]) rfl ⟨B, T ++ [(l.length, 1)]⟩
  rw [List.length_map] at hid
  refine ARun.go 60 ?_
  simp only [W, seval, c88, e1]
  refine callS_fn hid ?_
  rintro _ _ ⟨rfl, rfl⟩
  cases hb : diffS l.length (l.map PaT.name)
  ·rw [hz, bad_plusM]
   refine ARun.go 60 ?_
   simp only [W, seval, c88]
   refine ARun.ret Tryz.func88 rfl (Left.tok ?_)
   exact ⟨rfl, rfl⟩
  ·rw [hz1, plusM_zero h2 h3]
   refine ARun.go 60 ?_
   simp only [W, seval, c88]
   refine ARun.ret Tryz.func88 rfl (Left.tok ?_)
   exact ⟨rfl, rfl⟩
 have e1 : decide ((i : Int) < (l.length : Int)) = true := decide_eq_true (by omega)
 have hwi := wrap_in ((i : Int) + 1) (by omega)
 have hg : (l.map paD)[i]? = some (paD l[i]) := by simp [hlt]
 have htk : (l.take (i + 1)).map PaT.name = (l.take i).map PaT.name ++ [l[i].name] := by
  rw [List.take_succ_eq_append_getElem hlt, List.map_append]
  rfl
 rw [sumM_drop _ l i hlt, ← plusM_assoc] at h4
 obtain ⟨y, hyy⟩ : ∃ y, l[i] = y := ⟨_, rfl⟩
 rw [hyy] at hg h4 htk
 rw [paD_eq] at hg
 have hty := typR_ab y.type 0 B (T ++ [(i + 1, 1)]) (by omega) (by omega)
 unfold tyV at hty
 have lt := tyR_le y.type 0
 have lp : paS1 y ≤ 60000 := (plusM_in _ _).2
 have hcap : (i + 1) * 16 ≤ 140737488355328 := by omega
 have hsn : ssD ((l.take i).map PaT.name) ++ [[D.str y.name]] = ssD ((l.take (i + 1)).map PaT.name) := by rw [htk]; exact ssD_snoc _ _
 have hsn2 : (ssD ((l.take i).map PaT.name)).length = i := by simp [ssD]; omega
 refine ARun.go 60 ?_
 simp only [W, seval, c88, e1, hg, hlt, ht, hsn2, mapD_nil, mapD_cons, Nat.reduceMul, hcap, hsn, ss1]
 refine callS_fn hty ?_
 rintro _ _ ⟨rfl, rfl⟩
 refine ARun.go 20 ?_
 simp only [W, seval, c88]
 refine callS_fn (plus_ab 1 _ (by omega) lt _ _) ?_
 rintro _ _ ⟨rfl, rfl⟩
 refine ARun.go 20 ?_
 simp only [W, seval, c88]
 refine callS_fn (plus_ab q _ h3 lp _ _) ?_
 rintro _ _ ⟨rfl, rfl⟩
 have hpi := plusM_in q (paS1 y)
 refine ARun.go 20 ?_
 simp only [W, seval, c88, hwi]
 refine ih (i + 1, plusM q (paS1 y)) ⟨by dsimp only; omega, hpi.1, hpi.2, h4⟩ (by dsimp only; omega) _ _ ?_ rfl
 refine Agree.env _ ?_
 simp only [agw, seval]
 try rfl
def pB (pr : PrT) : List V := [.d (.sl (pr.structs.map suD)), .d (.sl (pr.funcs.map fuD))]
def fB (f : FuT) : List V := [.d (.str f.name), .d (.sl (f.params.map paD)), .d (.sl (f.results.map tyD)), .d (.sl (f.body.map stD))]
theorem fncR_bad (n : Nat) (f : FuT) (h : identS f.name = false ∨ (decide (1 ≤ f.results.length) && decide (f.results.length ≤ 20)) = false) : fncR n f = -1 := by
 have hz : zM false = -1 := rfl
 unfold fncR
 rcases h with h | h
 ·rw [h, hz, plusM_bad, bad_plusM]
 ·rw [h, hz, plusM_bad, bad_plusM, bad_plusM, bad_plusM]
theorem fncR_ok (n : Nat) (f : FuT) (h : identS f.name = true) (h2 : (decide (1 ≤ f.results.length) && decide (f.results.length ≤ 20)) = true) (q : Int) : plusM q (fncR n f) = plusM (plusM (plusM q (plusM 1 (paR 20 f.params))) (sumM (fun t => tyR t 0) f.results)) (sumM (fun s => stR n s 0) f.body) := by
 have hz : zM true = 0 := rfl
 unfold fncR
 rw [h, h2, hz, zero_plusM (plusM_in _ _).1 (plusM_in _ _).2, zero_plusM (plusM_in _ _).1 (plusM_in _ _).2]
 simp only [plusM_assoc]
set_option maxHeartbeats 8000000 in
theorem prog_b (n : Nat) (pr : PrT) (hst : ∀ f ∈ pr.funcs, ∀ x ∈ f.body, StmR n x) (q0 : Int) (hq0 : -1 ≤ q0) (hq1 : q0 ≤ 60000) (N : Nat) (B : List (List V)) (T : List (Nat × Nat)) (hn : B.length = N) (hfl : pr.funcs.length ≤ 9223372036854775807) :
 ARun Tryz.prog TabI (N, T.length) 59 [.code (kF Tryz.f59 27)] (envS 88 [(1, .ptr N 0), (3, .d (.int .i64 q0))]) ⟨B ++ [pB pr], T⟩ (Ab.Left ⟨B, T⟩ (Same (.d (.int .i64 (plusM q0 (sumM (fncR n) pr.funcs)))) ⟨B, T⟩)) := by
 have hN1 : N < N + 1 := by omega
 have hN2 : ¬ N + 1 < N + 1 := by omega
 refine ARun.go 1 ?_
 simp only [W, seval, c59]
 refine ARun.after [_] _ (fun a : Int => (envS 88 [(1, .ptr N 0), (3, .d (.int .i64 a))], ⟨B ++ [pB pr], T⟩)) (fun a => a = plusM q0 (sumM (fncR n) pr.funcs)) ?_ ?_
 ·rintro a rfl
  refine ARun.go 20 ?_
  simp only [W, seval, c59, hn]
  refine ARun.ret Tryz.func59 rfl (Left.box ?_)
  exact ⟨rfl, rfl⟩
 intro K' hend
 unfold pB at hend ⊢
 refine ARun.goK 6 ?_
 simp only [W, seval, c59]
 refine ARun.fits fun hf => ?_
 refine ARun.loopB (fun a : Nat × Int => (envS 88 [(1, .ptr N 0), (3, .d (.int .i64 a.2)), (5, .d (.int .i64 (a.1 : Int)))], ⟨B ++ [pB pr], T⟩)) (fun a => a.1 ≤ pr.funcs.length ∧ -1 ≤ a.2 ∧ a.2 ≤ 60000 ∧ plusM a.2 (sumM (fncR n) (pr.funcs.drop a.1)) = plusM q0 (sumM (fncR n) pr.funcs)) (fun a => pr.funcs.length - a.1) (0, q0) ⟨by simp, hq0, hq1, rfl⟩ ?_ rfl ?_
 ·skip
  refine Agree.env _ ?_
  simp only [agw, seval]
 rintro ⟨i, q⟩ ⟨g1, g2, g3, g4⟩ ih
 dsimp only at g1 g2 g3 g4 ih ⊢
 by_cases hlt : i < pr.funcs.length
 case neg =>
  have e1 : decide ((i : Int) < (pr.funcs.length : Int)) = false := decide_eq_false (by omega)
  rw [List.drop_eq_nil_of_le (by omega)] at g4
  have h5 : sumM (fncR n) [] = 0 := rfl
  rw [h5, plusM_zero g2 g3] at g4
  unfold pB
  refine ARun.goK (k := [_, _, _]) 60 ?_
  simp only [W, seval, c59, hn, e1]
  refine hend q g4 _ _ ?_ rfl
  refine Agree.env _ ?_
  simp only [agw, seval]
 have e1 : decide ((i : Int) < (pr.funcs.length : Int)) = true := decide_eq_true (by omega)
 have hwi := wrap_in ((i : Int) + 1) (by omega)
 have hg : (pr.funcs.map fuD)[i]? = some (fuD pr.funcs[i]) := by simp [hlt]
 rw [sumM_drop _ pr.funcs i hlt, ← plusM_assoc] at g4
 have hfst := hst pr.funcs[i] (List.getElem_mem hlt)
 obtain ⟨f, hff⟩ : ∃ f, pr.funcs[i] = f := ⟨_, rfl⟩
 rw [hff] at hg g4 hfst
 rw [fuD_eq] at hg
 unfold pB
 refine ARun.goK (k := [_, _]) 60 ?_
 simp only [W, seval, c59, hn, e1, hg, hlt]
 refine callS_fn (identR_ab f.name _ _) ?_
 rintro _ _ ⟨rfl, rfl⟩
 have r1 : decide ((f.results.length : Int) < 1) = !decide (1 ≤ f.results.length) := by rw [← decide_not]; exact decide_eq_decide.2 (by omega)
 have r2 : decide ((20 : Int) < (f.results.length : Int)) = !decide (f.results.length ≤ 20) := by rw [← decide_not]; exact decide_eq_decide.2 (by omega)
 cases hid : identS f.name
 ·rw [fncR_bad n f (.inl hid), bad_plusM, plusM_bad] at g4
  rw [← g4]
  refine ARun.goK (k := [_, _]) 60 ?_
  simp only [W, seval, c59, hn]
  refine ARun.ret Tryz.func59 rfl (Left.box ?_)
  exact ⟨rfl, rfl⟩
 cases c1 : decide (1 ≤ f.results.length)
 ·rw [c1] at r1
  rw [fncR_bad n f (.inr (by rw [c1]; rfl)), bad_plusM, plusM_bad] at g4
  rw [← g4]
  refine ARun.goK (k := [_, _]) 60 ?_
  simp only [W, seval, c59, hn, r1, Bool.not_false]
  refine ARun.ret Tryz.func59 rfl (Left.box ?_)
  exact ⟨rfl, rfl⟩
 cases c2 : decide (f.results.length ≤ 20)
 ·rw [c1] at r1
  rw [c2] at r2
  rw [fncR_bad n f (.inr (by rw [c1, c2]; rfl)), bad_plusM, plusM_bad] at g4
  rw [← g4]
  refine ARun.goK (k := [_, _]) 60 ?_
  simp only [W, seval, c59, hn, r1, r2, Bool.not_false, Bool.not_true]
  refine ARun.ret Tryz.func59 rfl (Left.box ?_)
  exact ⟨rfl, rfl⟩
 rw [c1] at r1
 rw [c2] at r2
 rw [fncR_ok n f hid (by rw [c1, c2]; rfl)] at g4
 have hpa := paramsR_ab 20 (by omega) f.params
 have hc20 : ((20 : Nat) : Int) = 20 := rfl
 rw [hc20] at hpa
 have lp : paR 20 f.params ≤ 60000 := (plusM_in _ _).2
 have lp1 := plusM_in 1 (paR 20 f.params)
 have lq1 := plusM_in q (plusM 1 (paR 20 f.params))
 refine ARun.goK (k := [_, _, _]) 60 ?_
 simp only [W, seval, c59, hn, r1, r2, Bool.not_false, Bool.not_true]
 refine callS_fn (hpa _ _) ?_
 rintro _ _ ⟨rfl, rfl⟩
 refine ARun.goK (k := [_]) 2 ?_
 simp only [W, seval, c59, hn]
 refine callS_fn (plus_ab 1 _ (by omega) lp _ _) ?_
 rintro _ _ ⟨rfl, rfl⟩
 refine ARun.goK (k := [_]) 2 ?_
 simp only [W, seval, c59, hn]
 refine callS_fn (plus_ab q _ g3 lp1.2 _ _) ?_
 rintro _ _ ⟨rfl, rfl⟩
 refine ARun.goK (k := [_, _]) 3 ?_
 simp only [W, seval, c59, hn]
 obtain ⟨q1, hq1e⟩ : ∃ z, plusM q (plusM 1 (paR 20 f.params)) = z := ⟨_, rfl⟩
 rw [hq1e] at g4 lq1
 rw [hq1e]
 have lty := sumM_le (fun t => tyR t 0) f.results
 have lst := sumM_le (fun s => stR n s 0) f.body
 refine ARun.after [_] _ (fun a : Int => (envS 88 [(1, .ptr N 0), (3, .d (.int .i64 a)), (5, .d (.int .i64 (i : Int))), (6, .ptr (N + 1) 0)], ⟨B ++ [pB pr, fB f], T⟩)) (fun a => a = plusM q1 (sumM (fun t => tyR t 0) f.results)) ?_ ?_
 ·rintro a rfl
  have hms := stms_ab n f.body hfst 0 (by omega) (by omega) (B ++ [pB pr, fB f]) T
  have l2 := plusM_in q1 (sumM (fun t => tyR t 0) f.results)
  have l3 := plusM_in (plusM q1 (sumM (fun t => tyR t 0) f.results)) (sumM (fun s => stR n s 0) f.body)
  unfold pB fB at hms ⊢
  refine ARun.goK (k := [_]) 20 ?_
  simp only [W, seval, c59, hn]
  refine callS_fn hms ?_
  rintro _ _ ⟨rfl, rfl⟩
  refine ARun.goK (k := [_]) 2 ?_
  simp only [W, seval, c59, hn]
  refine callS_fn (plus_ab _ _ l2.2 lst.2 _ _) ?_
  rintro _ _ ⟨rfl, rfl⟩
  refine ARun.goK (k := [_, _, _]) 12 ?_
  simp only [W, seval, c59, hn, hwi]
  have hap : ∀ x : List V, B ++ [pB pr, x] = (B ++ [pB pr]) ++ [x] := fun x => by simp
  unfold pB at hap ih
  rw [hap]
  refine ih (i + 1, plusM (plusM q1 (sumM (fun t => tyR t 0) f.results)) (sumM (fun s => stR n s 0) f.body)) ⟨by dsimp only; omega, l3.1, l3.2, g4⟩ (by dsimp only; omega) _ _ _ _ rfl ⟨by simp; omega, Nat.le_refl _⟩ hf ?_
  refine AgreeF.env _ ?_
  simp only [agf, seval, hn, List.length_append, List.length_cons, List.length_nil, Nat.zero_add, hN1, hN2]
 intro K2 hend2
 unfold pB fB at hend2
 refine ARun.goK (k := [_]) 6 ?_
 simp only [W, seval, c59]
 refine ARun.loopW (fun a : Nat × Int => (envS 88 [(1, .ptr N 0), (3, .d (.int .i64 a.2)), (5, .d (.int .i64 (i : Int))), (6, .ptr (N + 1) 0), (7, .d (.int .i64 (a.1 : Int)))], ⟨B ++ [pB pr, fB f], T⟩)) (fun a => a.1 ≤ f.results.length ∧ -1 ≤ a.2 ∧ a.2 ≤ 60000 ∧ plusM a.2 (sumM (fun t => tyR t 0) (f.results.drop a.1)) = plusM q1 (sumM (fun t => tyR t 0) f.results)) (fun a => f.results.length - a.1) (0, q1) ⟨by simp, lq1.1, lq1.2, rfl⟩ ?_ rfl ?_
 ·skip
  refine Agree.env _ ?_
  simp only [agw, seval]
 rintro ⟨j, r⟩ ⟨m1, m2, m3, m4⟩ ih2
 dsimp only at m1 m2 m3 m4 ih2 ⊢
 unfold pB fB at ih2 ⊢
 by_cases hj : j < f.results.length
 case neg =>
  have e3 : decide ((j : Int) < (f.results.length : Int)) = false := decide_eq_false (by omega)
  rw [List.drop_eq_nil_of_le (by omega)] at m4
  have h5 : sumM (fun t => tyR t 0) [] = 0 := rfl
  rw [h5, plusM_zero m2 m3] at m4
  refine ARun.goK (k := [_, _, _]) 60 ?_
  simp only [W, seval, c59, hn, e3]
  refine hend2 r m4 _ _ ?_ rfl
  refine Agree.env _ ?_
  simp only [agw, seval]
 have e3 : decide ((j : Int) < (f.results.length : Int)) = true := decide_eq_true (by omega)
 have hwj := wrap_in ((j : Int) + 1) (by have := of_decide_eq_true c2; omega)
 have hgj : (f.results.map tyD)[j]? = some (tyD f.results[j]) := by simp [hj]
 rw [sumM_drop _ f.results j hj, ← plusM_assoc] at m4
 obtain ⟨t, htt⟩ : ∃ t, f.results[j] = t := ⟨_, rfl⟩
 rw [htt] at hgj m4
 rw [tyD_eq] at hgj
 have hty := typR_ab t 0
 unfold tyV at hty
 have ltt := tyR_le t 0
 have lrt := plusM_in r (tyR t 0)
 refine ARun.goK (k := [_, _]) 30 ?_
 simp only [W, seval, c59, hn, e3, hgj, hj]
 refine callS_fn (hty _ _ (by omega) (by omega)) ?_
 rintro _ _ ⟨rfl, rfl⟩
 refine ARun.goK (k := [_]) 2 ?_
 simp only [W, seval, c59, hn]
 refine callS_fn (plus_ab r _ m3 ltt _ _) ?_
 rintro _ _ ⟨rfl, rfl⟩
 refine ARun.goK (k := [_, _, _]) 12 ?_
 simp only [W, seval, c59, hn, hwj]
 refine ih2 (j + 1, plusM r (tyR t 0)) ⟨by dsimp only; omega, lrt.1, lrt.2, m4⟩ (by dsimp only; omega) _ _ ?_ rfl
 refine Agree.env _ ?_
 simp only [agw, seval]
theorem suR_bad (x : SuT) (h : identS x.name = false) : suR x = -1 := by
 have hz : zM false = -1 := rfl
 unfold suR
 rw [h, hz, plusM_bad, bad_plusM]
theorem suR_ok (x : SuT) (h : identS x.name = true) : suR x = plusM 1 (paR 60 x.fields) := by
 have hz : zM true = 0 := rfl
 have hp : -1 ≤ paR 60 x.fields ∧ paR 60 x.fields ≤ 60000 := plusM_in _ _
 unfold suR
 rw [h, hz, zero_plusM hp.1 hp.2]
set_option maxHeartbeats 8000000 in
theorem progR_ab (n : Nat) (pr : PrT) (hst : ∀ f ∈ pr.funcs, ∀ x ∈ f.body, StmR n x) (B : List (List V)) (T : List (Nat × Nat)) : AFn Tryz.prog TabI 59 [prV pr] ⟨B, T⟩ (Same (.d (.int .i64 (prR n pr))) ⟨B, T⟩) := by
 obtain ⟨N, hn⟩ : ∃ N, B.length = N := ⟨_, rfl⟩
 have hR : prR n pr = plusM (sumM suR pr.structs) (sumM (fncR n) pr.funcs) := rfl
 have hsu := sumM_le suR pr.structs
 rw [hR]
 unfold prV
 refine b59.go 10 rfl fun hsm => ?_
 simp only [smw] at hsm
 simp only [W, seval, c59, hn]
 change ARun _ _ _ _ _ _ ⟨B ++ [pB pr], T⟩ _
 refine ARun.after [_] _ (fun a : Int => (envS 88 [(1, .ptr N 0), (3, .d (.int .i64 a))], ⟨B ++ [pB pr], T⟩)) (fun a => a = sumM suR pr.structs) ?_ ?_
 ·rintro a rfl
  exact prog_b n pr hst _ hsu.1 hsu.2 N B T hn (by omega)
 intro K' hend
 unfold pB at hend ⊢
 refine ARun.goK 6 ?_
 simp only [W, seval, c59]
 refine ARun.loopW (fun a : Nat × Int => (envS 88 [(1, .ptr N 0), (3, .d (.int .i64 a.2)), (4, .d (.int .i64 (a.1 : Int)))], ⟨B ++ [pB pr], T⟩)) (fun a => a.1 ≤ pr.structs.length ∧ -1 ≤ a.2 ∧ a.2 ≤ 60000 ∧ plusM a.2 (sumM suR (pr.structs.drop a.1)) = sumM suR pr.structs) (fun a => pr.structs.length - a.1) (0, 0) ⟨by simp, by decide, by decide, zero_plusM hsu.1 hsu.2⟩ ?_ rfl ?_
 ·skip
  refine Agree.env _ ?_
  simp only [agw, seval]
 rintro ⟨i, q⟩ ⟨g1, g2, g3, g4⟩ ih
 dsimp only at g1 g2 g3 g4 ih ⊢
 unfold pB at ih ⊢
 by_cases hlt : i < pr.structs.length
 case neg =>
  have e1 : decide ((i : Int) < (pr.structs.length : Int)) = false := decide_eq_false (by omega)
  rw [List.drop_eq_nil_of_le (by omega)] at g4
  have h5 : sumM suR [] = 0 := rfl
  rw [h5, plusM_zero g2 g3] at g4
  refine ARun.goK (k := [_, _, _]) 60 ?_
  simp only [W, seval, c59, hn, e1]
  refine hend q g4 _ _ ?_ rfl
  refine Agree.env _ ?_
  simp only [agw, seval]
 have e1 : decide ((i : Int) < (pr.structs.length : Int)) = true := decide_eq_true (by omega)
 have hwi := wrap_in ((i : Int) + 1) (by omega)
 have hg : (pr.structs.map suD)[i]? = some (suD pr.structs[i]) := by simp [hlt]
 rw [sumM_drop _ pr.structs i hlt, ← plusM_assoc] at g4
 obtain ⟨x, hxx⟩ : ∃ x, pr.structs[i] = x := ⟨_, rfl⟩
 rw [hxx] at hg g4
 rw [suD_eq] at hg
 refine ARun.goK (k := [_, _]) 60 ?_
 simp only [W, seval, c59, hn, e1, hg, hlt]
 refine callS_fn (identR_ab x.name _ _) ?_
 rintro _ _ ⟨rfl, rfl⟩
 cases hid : identS x.name
 ·rw [suR_bad x hid, bad_plusM, plusM_bad] at g4
  rw [← g4, plusM_bad]
  refine ARun.goK (k := [_, _]) 60 ?_
  simp only [W, seval, c59, hn]
  refine ARun.ret Tryz.func59 rfl (Left.box ?_)
  exact ⟨rfl, rfl⟩
 rw [suR_ok x hid] at g4
 have hpa := paramsR_ab 60 (by omega) x.fields
 have hc60 : ((60 : Nat) : Int) = 60 := rfl
 rw [hc60] at hpa
 have lp : paR 60 x.fields ≤ 60000 := (plusM_in _ _).2
 have lp1 := plusM_in 1 (paR 60 x.fields)
 have lq1 := plusM_in q (plusM 1 (paR 60 x.fields))
 refine ARun.goK (k := [_, _, _]) 60 ?_
 simp only [W, seval, c59, hn, hg, hlt]
 refine callS_fn (hpa _ _) ?_
 rintro _ _ ⟨rfl, rfl⟩
 refine ARun.goK (k := [_]) 2 ?_
 simp only [W, seval, c59, hn]
 refine callS_fn (plus_ab 1 _ (by omega) lp _ _) ?_
 rintro _ _ ⟨rfl, rfl⟩
 refine ARun.goK (k := [_]) 2 ?_
 simp only [W, seval, c59, hn]
 refine callS_fn (plus_ab q _ g3 lp1.2 _ _) ?_
 rintro _ _ ⟨rfl, rfl⟩
 refine ARun.goK (k := [_, _, _]) 12 ?_
 simp only [W, seval, c59, hn, hwi]
 refine ih (i + 1, plusM q (plusM 1 (paR 60 x.fields))) ⟨by dsimp only; omega, lq1.1, lq1.2, g4⟩ (by dsimp only; omega) _ _ ?_ rfl
 refine Agree.env _ ?_
 simp only [agw, seval]
set_option maxHeartbeats 4000000 in
theorem rightR_ab (n : Nat) (pr : PrT) (hst : ∀ f ∈ pr.funcs, ∀ x ∈ f.body, StmR n x) (B : List (List V)) (T : List (Nat × Nat)) : AFn Tryz.prog TabI 31 [prV pr] ⟨B, T⟩ (Same (.d (.bool (decide (0 ≤ prR n pr)))) ⟨B, T⟩) := by
 obtain ⟨N, hn⟩ : ∃ N, B.length = N := ⟨_, rfl⟩
 have hp := progR_ab n pr hst
 unfold prV at hp ⊢
 refine b31.go 40 rfl fun _ => ?_
 simp only [W, seval, c31, hn]
 refine callS_fn (hp _ _) ?_
 rintro _ _ ⟨rfl, rfl⟩
 refine ARun.go 40 ?_
 simp only [W, seval, c31, hn]
 refine ARun.ret Tryz.func31 rfl (Left.box ?_)
 exact ⟨rfl, rfl⟩
noncomputable def rgR (p : PrT) : Bool := decide (0 ≤ prR (SizeOf.sizeOf p.funcs) p)
theorem rgR_ab (p : PrT) (B : List (List V)) (T : List (Nat × Nat)) : AFn Tryz.prog TabI 31 [prV p] ⟨B, T⟩ (Same (.d (.bool (rgR p))) ⟨B, T⟩) := by
 refine rightR_ab (SizeOf.sizeOf p.funcs) p (fun f hf x hx => stmR_ab _ x (Dp.of_size _ x ?_)) B T
 have h1 := List.sizeOf_lt_of_mem hf
 have h2 := List.sizeOf_lt_of_mem hx
 have h3 : SizeOf.sizeOf f.body < SizeOf.sizeOf f := by cases f; simp only [FuT.mk.sizeOf_spec]; omega
 omega
def c34 := by
 have c := KK_of Tryz.f34 (by conv => lhs; cbv)
 dsimp only [KK, KxP, doO, opO, List.map_cons, List.map_nil, List.toList_toArray] at c
 exact c
theorem b34 : FnIs Tryz.prog 34 Tryz.f34 46 := ⟨Tryz.func34, by kernel_rfl⟩
def c60 := by
 have c := KK_of Tryz.f60 (by conv => lhs; cbv)
 dsimp only [KK, KxP, doO, opO, List.map_cons, List.map_nil, List.toList_toArray] at c
 exact c
theorem b60 : FnIs Tryz.prog 60 Tryz.f60 26 := ⟨Tryz.func60, by kernel_rfl⟩
def c91 := by
 have c := KK_of Tryz.f91 (by conv => lhs; cbv)
 dsimp only [KK, KxP, doO, opO, List.map_cons, List.map_nil, List.toList_toArray] at c
 exact c
theorem b91 : FnIs Tryz.prog 91 Tryz.f91 45 := ⟨Tryz.func91, by kernel_rfl⟩
def c61 := by
 have c := KK_of Tryz.f61 (by conv => lhs; cbv)
 dsimp only [KK, KxP, doO, opO, List.map_cons, List.map_nil, List.toList_toArray] at c
 exact c
theorem b61 : FnIs Tryz.prog 61 Tryz.f61 27 := ⟨Tryz.func61, by kernel_rfl⟩
def STy (t : TyT) : Prop := ∀ (B : List (List V)) (T : List (Nat × Nat)), AFn Tryz.prog TabI 34 [tyV t, tyV t] ⟨B, T⟩ (Same (.d (.bool true)) ⟨B, T⟩)
set_option maxHeartbeats 4000000 in
theorem sty_step (t : TyT) (h : ∀ u ∈ t.elem, STy u) : STy t := by
 intro B T
 obtain ⟨N, hn⟩ : ∃ N, B.length = N := ⟨_, rfl⟩
 unfold tyV
 refine b34.go 100 rfl fun hsm => ?_
 simp only [smw] at hsm
 simp only [W, seval, c34, hn, decide_true]
 refine ARun.loopW (fun i : Nat => (envS 46 [(2, .ptr N 0), (3, .ptr (N + 1) 0), (5, .d (.int .i64 (i : Int)))], ⟨B ++ [[.d (.int .i64 t.kind), .d (.str t.name), .d (.sl (t.elem.map tyD))], [.d (.int .i64 t.kind), .d (.str t.name), .d (.sl (t.elem.map tyD))]], T⟩)) (fun i => i ≤ t.elem.length) (fun i => t.elem.length - i) 0 (by omega) ?_ rfl ?_
 ·skip
  refine Agree.env _ ?_
  simp only [agw, seval]
 rintro i h1 ih
 dsimp only at h1 ih ⊢
 by_cases hlt : i < t.elem.length
 case neg =>
  have e1 : decide ((i : Int) < (t.elem.length : Int)) = false := decide_eq_false (by omega)
  refine ARun.go 60 ?_
  simp only [W, seval, c34, hn, e1]
  refine ARun.ret Tryz.func34 rfl (Left.box ?_)
  exact ⟨rfl, rfl⟩
 have e1 : decide ((i : Int) < (t.elem.length : Int)) = true := decide_eq_true (by omega)
 have hwi := wrap_in ((i : Int) + 1) (by omega)
 have hg : (t.elem.map tyD)[i]? = some (tyD t.elem[i]) := by simp [hlt]
 have hy := h t.elem[i] (List.getElem_mem hlt)
 obtain ⟨u, hu⟩ : ∃ u, t.elem[i] = u := ⟨_, rfl⟩
 rw [hu] at hg hy
 rw [tyD_eq] at hg
 unfold STy tyV at hy
 refine ARun.go 60 ?_
 simp only [W, seval, c34, hn, e1]
 refine ARun.draw (by kernel_rfl) (by kernel_rfl) (lexQ_ok 60 _ _ ?_)
 simp only [W, seval, c34, hn, hg, hlt]
 refine ⟨_, hy _ _, ?_⟩
 simp only [W, seval, c34]
 refine ARun.go 60 ?_
 simp only [W, seval, c34, hn, hwi]
 refine ih (i + 1) (by omega) (by omega) _ _ ?_ rfl
 refine Agree.env _ ?_
 simp only [agw, seval]
mutual
theorem sty_ab : ∀ t : TyT, STy t
 | .mk _ _ es => sty_step _ (sty_all es)
theorem sty_all : ∀ (l : List TyT), ∀ u ∈ l, STy u
 | [], _, h => absurd h List.not_mem_nil
 | y :: l, x, h => by
  rcases List.mem_cons.1 h with e | e
  ·rw [e]; exact sty_ab y
  ·exact sty_all l x e
end
set_option maxHeartbeats 4000000 in
theorem stexts_ab (l : List (List UInt8)) (B : List (List V)) (T : List (Nat × Nat)) : AFn Tryz.prog TabI 60 [.d (.sl (ssD l)), .d (.sl (ssD l))] ⟨B, T⟩ (Same (.d (.bool true)) ⟨B, T⟩) := by
 have hll : (ssD l).length = l.length := by simp [ssD]
 refine b60.go 60 rfl fun hsm => ?_
 simp only [smw] at hsm
 simp only [W, seval, c60, decide_true]
 refine ARun.loopW (fun i : Nat => (envS 26 [(0, .d (.sl (ssD l))), (1, .d (.sl (ssD l))), (5, .d (.int .i64 (i : Int)))], ⟨B, T⟩)) (fun i => i ≤ l.length) (fun i => l.length - i) 0 (by omega) ?_ rfl ?_
 ·skip
  refine Agree.env _ ?_
  simp only [agw, seval]
 rintro i h1 ih
 dsimp only at h1 ih ⊢
 by_cases hlt : i < l.length
 case neg =>
  have e1 : decide ((i : Int) < (l.length : Int)) = false := decide_eq_false (by omega)
  refine ARun.go 60 ?_
  simp only [W, seval, c60, hll, e1]
  refine ARun.ret Tryz.func60 rfl (Left.none ?_)
  exact ⟨rfl, rfl⟩
 have e1 : decide ((i : Int) < (l.length : Int)) = true := decide_eq_true (by omega)
 have hwi := wrap_in ((i : Int) + 1) (by omega)
 have hg : (ssD l)[i]? = some [.str l[i]] := by simp [ssD, hlt]
 refine ARun.go 60 ?_
 simp only [W, seval, c60, hll, e1]
 refine ARun.draw (by kernel_rfl) (by kernel_rfl) (lexQ_ok 60 _ _ ?_)
 simp only [W, seval, c60, hg, hlt, decide_true]
 refine ARun.go 60 ?_
 simp only [W, seval, c60, hwi, Bool.not_true]
 refine ih (i + 1) (by omega) (by omega) _ _ ?_ rfl
 refine Agree.env _ ?_
 simp only [agw, seval]
def SEx (x : ExT) : Prop := ∀ (B : List (List V)) (T : List (Nat × Nat)), AFn Tryz.prog TabI 91 [exV x, exV x] ⟨B, T⟩ (Same (.d (.bool true)) ⟨B, T⟩)
set_option maxHeartbeats 4000000 in
theorem sexs_ab (l : List ExT) (h : ∀ u ∈ l, SEx u) (B : List (List V)) (T : List (Nat × Nat)) : AFn Tryz.prog TabI 61 [.d (.sl (l.map exD)), .d (.sl (l.map exD))] ⟨B, T⟩ (Same (.d (.bool true)) ⟨B, T⟩) := by
 refine b61.go 60 rfl fun hsm => ?_
 simp only [smw] at hsm
 simp only [W, seval, c61, decide_true]
 refine ARun.loopW (fun i : Nat => (envS 27 [(0, .d (.sl (l.map exD))), (1, .d (.sl (l.map exD))), (5, .d (.int .i64 (i : Int)))], ⟨B, T⟩)) (fun i => i ≤ l.length) (fun i => l.length - i) 0 (by omega) ?_ rfl ?_
 ·skip
  refine Agree.env _ ?_
  simp only [agw, seval]
 rintro i h1 ih
 dsimp only at h1 ih ⊢
 by_cases hlt : i < l.length
 case neg =>
  have e1 : decide ((i : Int) < (l.length : Int)) = false := decide_eq_false (by omega)
  refine ARun.go 60 ?_
  simp only [W, seval, c61, e1]
  refine ARun.ret Tryz.func61 rfl (Left.none ?_)
  exact ⟨rfl, rfl⟩
 have e1 : decide ((i : Int) < (l.length : Int)) = true := decide_eq_true (by omega)
 have hwi := wrap_in ((i : Int) + 1) (by omega)
 have hg : (l.map exD)[i]? = some (exD l[i]) := by simp [hlt]
 have hy := h l[i] (List.getElem_mem hlt)
 obtain ⟨u, hu⟩ : ∃ u, l[i] = u := ⟨_, rfl⟩
 rw [hu] at hg hy
 rw [exD_eq] at hg
 unfold SEx exV at hy
 refine ARun.go 60 ?_
 simp only [W, seval, c61, e1]
 refine ARun.draw (by kernel_rfl) (by kernel_rfl) (lexQ_ok 60 _ _ ?_)
 simp only [W, seval, c61, hg, hlt]
 refine ⟨_, hy _ _, ?_⟩
 simp only [W, seval, c61]
 refine ARun.go 60 ?_
 simp only [W, seval, c61, hwi]
 refine ih (i + 1) (by omega) (by omega) _ _ ?_ rfl
 refine Agree.env _ ?_
 simp only [agw, seval]
set_option maxHeartbeats 4000000 in
theorem sex_step (x : ExT) (h : ∀ u ∈ x.kids, SEx u) : SEx x := by
 intro B T
 obtain ⟨N, hn⟩ : ∃ N, B.length = N := ⟨_, rfl⟩
 have hty := sty_ab x.type
 have htx := stexts_ab x.names
 have hks := sexs_ab x.kids h
 unfold STy tyV at hty
 unfold exV
 refine b91.go 100 rfl fun _ => ?_
 simp only [W, seval, c91, hn, decide_true]
 refine callS_fn (hty _ _) ?_
 rintro _ _ ⟨rfl, rfl⟩
 refine ARun.go 60 ?_
 simp only [W, seval, c91, hn]
 refine callS_fn (htx _ _) ?_
 rintro _ _ ⟨rfl, rfl⟩
 refine ARun.go 60 ?_
 simp only [W, seval, c91, hn]
 refine callS_fn (hks _ _) ?_
 rintro _ _ ⟨rfl, rfl⟩
 refine ARun.go 60 ?_
 simp only [W, seval, c91, hn]
 refine ARun.ret Tryz.func91 rfl (Left.box ?_)
 exact ⟨rfl, rfl⟩
mutual
theorem sex_ab : ∀ x : ExT, SEx x
 | .mk _ _ _ _ _ ks => sex_step _ (sex_all ks)
theorem sex_all : ∀ (l : List ExT), ∀ u ∈ l, SEx u
 | [], _, h => absurd h List.not_mem_nil
 | y :: l, x, h => by
  rcases List.mem_cons.1 h with e | e
  ·rw [e]; exact sex_ab y
  ·exact sex_all l x e
end
end Go.Proofs.YtnnnhlkmdnacaaaGreatDoor
namespace Go.Ab
open Go.RowKit Go.Av
theorem ARun.smQ {P : Program} {I : Inv} {z : Nat × Nat} {fn : FuncId} {R : V → Mem → Prop} {k : List Item} {env : List V} {S : Mem} (q : Nat) (h : sm (env.getD q .undef) = true → ARun P I z fn k env S R) : ARun P I z fn k env S R :=
 fun b a c w c0 w0 h1 h2 h3 h4 h5 h6 hI => h (EnvR.get h4 q).sm b a c w c0 w0 h1 h2 h3 h4 h5 h6 hI
end Go.Ab
namespace Go.Proofs.YtnnnhlkmdnacaaaGreatDoor
open Go.RowKit Go.Av Go.Ab
set_option linter.unusedSimpArgs false
set_option maxRecDepth 100000
set_option linter.defProp false
def c33 := by
 have c := KK_of Tryz.f33 (by conv => lhs; cbv)
 dsimp only [KK, KxP, doO, opO, List.map_cons, List.map_nil, List.toList_toArray] at c
 exact c
theorem b33 : FnIs Tryz.prog 33 Tryz.f33 126 := ⟨Tryz.func33, by kernel_rfl⟩
def c32 := by
 have c := KK_of Tryz.f32 (by conv => lhs; cbv)
 dsimp only [KK, KxP, doO, opO, List.map_cons, List.map_nil, List.toList_toArray] at c
 exact c
theorem b32 : FnIs Tryz.prog 32 Tryz.f32 42 := ⟨Tryz.func32, by kernel_rfl⟩
def SSt (l : List StT) : Prop := ∀ (B : List (List V)) (T : List (Nat × Nat)), AFn Tryz.prog TabI 33 [.d (.sl (l.map stD)), .d (.sl (l.map stD))] ⟨B, T⟩ (Same (.d (.bool true)) ⟨B, T⟩)
set_option maxHeartbeats 8000000 in
theorem sst_step (l : List StT) (hb : ∀ s ∈ l, SSt s.body) (he : ∀ s ∈ l, SSt s.els) (hc : ∀ s ∈ l, ∀ c ∈ s.cases, SSt c.body) : SSt l := by
 intro B T
 obtain ⟨N, hn⟩ : ∃ N, B.length = N := ⟨_, rfl⟩
 have hN0 : ¬ N < N := by omega
 have hN1 : ¬ N + 1 < N := by omega
 refine b33.go 60 rfl fun hsm => ?_
 simp only [smw] at hsm
 simp only [W, seval, c33, hn, decide_true]
 refine ARun.fits fun hf => ?_
 refine ARun.loopB (fun i : Nat => (envS 126 [(0, .d (.sl (l.map stD))), (1, .d (.sl (l.map stD))), (5, .d (.int .i64 (i : Int)))], ⟨B, T⟩)) (fun i => i ≤ l.length) (fun i => l.length - i) 0 (by omega) ?_ rfl ?_
 ·skip
  refine Agree.env _ ?_
  simp only [agw, seval]
 rintro i h1 ih
 dsimp only at h1 ih ⊢
 by_cases hlt : i < l.length
 case neg =>
  have e1 : decide ((i : Int) < (l.length : Int)) = false := decide_eq_false (by omega)
  refine ARun.go 60 ?_
  simp only [W, seval, c33, hn, e1]
  refine ARun.ret Tryz.func33 rfl (Left.none ?_)
  exact ⟨rfl, rfl⟩
 have e1 : decide ((i : Int) < (l.length : Int)) = true := decide_eq_true (by omega)
 have hwi := wrap_in ((i : Int) + 1) (by omega)
 have hg : (l.map stD)[i]? = some (stD l[i]) := by simp [hlt]
 have hb := hb l[i] (List.getElem_mem hlt)
 have he := he l[i] (List.getElem_mem hlt)
 have hc := hc l[i] (List.getElem_mem hlt)
 obtain ⟨s, hs⟩ : ∃ s, l[i] = s := ⟨_, rfl⟩
 rw [hs] at hg hb he hc
 rw [stD_eq] at hg
 have hty := sty_ab s.type
 unfold STy tyV at hty
 refine ARun.go 60 ?_
 simp only [W, seval, c33, hn, e1, hg, hlt, decide_true]
 refine callS_fn (stexts_ab s.names _ _) ?_
 rintro _ _ ⟨rfl, rfl⟩
 refine ARun.go 20 ?_
 simp only [W, seval, c33, hn]
 refine callS_fn (hty _ _) ?_
 rintro _ _ ⟨rfl, rfl⟩
 refine ARun.go 20 ?_
 simp only [W, seval, c33, hn]
 refine callS_fn (sexs_ab s.lefts (fun u _ => sex_ab u) _ _) ?_
 rintro _ _ ⟨rfl, rfl⟩
 refine ARun.go 20 ?_
 simp only [W, seval, c33, hn]
 refine callS_fn (sexs_ab s.exprs (fun u _ => sex_ab u) _ _) ?_
 rintro _ _ ⟨rfl, rfl⟩
 refine ARun.go 20 ?_
 simp only [W, seval, c33, hn]
 refine callS_fn (hb _ _) ?_
 rintro _ _ ⟨rfl, rfl⟩
 refine ARun.go 20 ?_
 simp only [W, seval, c33, hn]
 refine callS_fn (he _ _) ?_
 rintro _ _ ⟨rfl, rfl⟩
 refine ARun.go 40 ?_
 simp only [W, seval, c33, hn, decide_true, Bool.not_true]
 refine ARun.smQ 83 fun hq => ?_
 change sm (.d (.sl (s.cases.map caD))) = true at hq
 simp only [sm, List.length_map, decide_eq_true_eq] at hq
 refine ARun.loopW (fun j : Nat => (envS 126 [(0, .d (.sl (l.map stD))), (1, .d (.sl (l.map stD))), (5, .d (.int .i64 (i : Int))), (6, .ptr N 0), (7, .ptr (N + 1) 0), (8, .d (.int .i64 (j : Int)))], ⟨B ++ [stB s, stB s], T⟩)) (fun j => j ≤ s.cases.length) (fun j => s.cases.length - j) 0 (by omega) ?_ rfl ?_
 ·skip
  refine Agree.env _ ?_
  simp only [agw, seval]
 rintro j m1 ih2
 dsimp only at m1 ih2 ⊢
 unfold stB at ih2 ⊢
 by_cases hj : j < s.cases.length
 case neg =>
  have e3 : decide ((j : Int) < (s.cases.length : Int)) = false := decide_eq_false (by omega)
  refine ARun.goK (k := [_, _, _, _, _]) 60 ?_
  simp only [W, seval, c33, hn, e3, hwi]
  refine ih (i + 1) (by omega) (by omega) _ B _ T rfl ⟨by simp [hn], Nat.le_refl _⟩ hf ?_
  refine AgreeF.env _ ?_
  simp only [agf, seval, hn, List.length_append, List.length_cons, List.length_nil, Nat.zero_add, hN0, hN1]
 have e3 : decide ((j : Int) < (s.cases.length : Int)) = true := decide_eq_true (by omega)
 have hwj := wrap_in ((j : Int) + 1) (by omega)
 have hgj : (s.cases.map caD)[j]? = some [.int .u64 s.cases[j].int, .sl (s.cases[j].body.map stD)] := by simp [hj, caD_eq]
 have hcb := hc s.cases[j] (List.getElem_mem hj)
 generalize s.cases[j] = c at hgj hcb
 refine ARun.goK (k := [_, _]) 30 ?_
 simp only [W, seval, c33, hn, e3]
 refine ARun.draw (by kernel_rfl) (by kernel_rfl) (lexQ_ok 60 _ _ ?_)
 simp only [W, seval, c33, hn, hgj, hj, decide_true, Bool.not_true]
 refine ⟨_, hcb _ _, ?_⟩
 simp only [W, seval, c33]
 refine ARun.goK (k := [_, _, _]) 30 ?_
 simp only [W, seval, c33, hn, hwj]
 refine ih2 (j + 1) (by omega) (by omega) _ _ ?_ rfl
 refine Agree.env _ ?_
 simp only [agw, seval]
theorem sst_ab : ∀ (n : Nat) (l : List StT), (∀ s ∈ l, Dp n s) → SSt l
 | 0, l, h => sst_step l (fun s hs => (h s hs).elim) (fun s hs => (h s hs).elim) fun s hs => (h s hs).elim
 | n + 1, l, h => sst_step l (fun s hs => sst_ab n s.body (h s hs).1) (fun s hs => sst_ab n s.els (h s hs).2.1) fun s hs c hc => sst_ab n c.body ((h s hs).2.2 c hc)
set_option maxHeartbeats 4000000 in
theorem spas_ab (l : List PaT) (B : List (List V)) (T : List (Nat × Nat)) : AFn Tryz.prog TabI 32 [.d (.sl (l.map paD)), .d (.sl (l.map paD))] ⟨B, T⟩ (Same (.d (.bool true)) ⟨B, T⟩) := by
 refine b32.go 60 rfl fun hsm => ?_
 simp only [smw] at hsm
 simp only [W, seval, c32, decide_true]
 refine ARun.loopW (fun i : Nat => (envS 42 [(0, .d (.sl (l.map paD))), (1, .d (.sl (l.map paD))), (5, .d (.int .i64 (i : Int)))], ⟨B, T⟩)) (fun i => i ≤ l.length) (fun i => l.length - i) 0 (by omega) ?_ rfl ?_
 ·skip
  refine Agree.env _ ?_
  simp only [agw, seval]
 rintro i h1 ih
 dsimp only at h1 ih ⊢
 by_cases hlt : i < l.length
 case neg =>
  have e1 : decide ((i : Int) < (l.length : Int)) = false := decide_eq_false (by omega)
  refine ARun.go 60 ?_
  simp only [W, seval, c32, e1]
  refine ARun.ret Tryz.func32 rfl (Left.none ?_)
  exact ⟨rfl, rfl⟩
 have e1 : decide ((i : Int) < (l.length : Int)) = true := decide_eq_true (by omega)
 have hwi := wrap_in ((i : Int) + 1) (by omega)
 have hg : (l.map paD)[i]? = some (paD l[i]) := by simp [hlt]
 have hy := sty_ab l[i].type
 obtain ⟨u, hu⟩ : ∃ u, l[i] = u := ⟨_, rfl⟩
 rw [hu] at hg hy
 rw [paD_eq] at hg
 unfold STy tyV at hy
 refine ARun.go 60 ?_
 simp only [W, seval, c32, e1]
 refine ARun.draw (by kernel_rfl) (by kernel_rfl) (lexQ_ok 60 _ _ ?_)
 simp only [W, seval, c32, hg, hlt, decide_true, Bool.not_true]
 refine ⟨_, hy _ _, ?_⟩
 simp only [W, seval, c32]
 refine ARun.go 60 ?_
 simp only [W, seval, c32, hwi]
 refine ih (i + 1) (by omega) (by omega) _ _ ?_ rfl
 refine Agree.env _ ?_
 simp only [agw, seval]
end Go.Proofs.YtnnnhlkmdnacaaaGreatDoor
namespace Go.Proofs.YtnnnhlkmdnacaaaGreatDoor
open Go.RowKit Go.Av Go.Ab
set_option linter.unusedSimpArgs false
set_option maxRecDepth 100000
set_option linter.defProp false
def c8 := by
 have c := KK_of Tryz.f8 (by conv => lhs; cbv)
 dsimp only [KK, KxP, doO, opO, List.map_cons, List.map_nil, List.toList_toArray] at c
 exact c
theorem b8 : FnIs Tryz.prog 8 Tryz.f8 128 := ⟨Tryz.func8, by kernel_rfl⟩
set_option maxHeartbeats 8000000 in
theorem spr_ab (pr : PrT) (B : List (List V)) (T : List (Nat × Nat)) : AFn Tryz.prog TabI 8 [prV pr, prV pr] ⟨B, T⟩ (Same (.d (.bool true)) ⟨B, T⟩) := by
 obtain ⟨N, hn⟩ : ∃ N, B.length = N := ⟨_, rfl⟩
 have hN2 : ¬ N + 1 + 1 < N + 1 + 1 := by omega
 have hN0 : N < N + 1 + 1 := by omega
 have hN1 : N + 1 < N + 1 + 1 := by omega
 have hN3 : ¬ N + 1 + 1 + 1 < N + 1 + 1 := by omega
 unfold prV
 refine b8.go 100 rfl fun hsm => ?_
 simp only [smw] at hsm
 simp only [W, seval, c8, hn, decide_true, Bool.not_true]
 obtain ⟨hsl, hfl⟩ := hsm
 refine ARun.loopW (fun i : Nat => (envS 128 [(2, .ptr N 0), (3, .ptr (N + 1) 0), (5, .d (.int .i64 (i : Int)))], ⟨B ++ [[.d (.sl (pr.structs.map suD)), .d (.sl (pr.funcs.map fuD))], [.d (.sl (pr.structs.map suD)), .d (.sl (pr.funcs.map fuD))]], T⟩)) (fun i => i ≤ pr.structs.length) (fun i => pr.structs.length - i) 0 (by omega) ?_ rfl ?_
 ·skip
  refine Agree.env _ ?_
  simp only [agw, seval]
 rintro i h1 ih
 dsimp only at h1 ih ⊢
 by_cases hlt : i < pr.structs.length
 case pos =>
  have e1 : decide ((i : Int) < (pr.structs.length : Int)) = true := decide_eq_true (by omega)
  have hwi := wrap_in ((i : Int) + 1) (by omega)
  have hg : (pr.structs.map suD)[i]? = some (suD pr.structs[i]) := by simp [hlt]
  generalize pr.structs[i] = u at hg
  rw [suD_eq] at hg
  refine ARun.go 60 ?_
  simp only [W, seval, c8, hn, e1]
  refine ARun.draw (by kernel_rfl) (by kernel_rfl) (lexQ_ok 60 _ _ ?_)
  simp only [W, seval, c8, hn, hg, hlt, decide_true, Bool.not_true]
  refine ⟨_, spas_ab u.fields _ _, ?_⟩
  simp only [W, seval, c8]
  refine ARun.go 60 ?_
  simp only [W, seval, c8, hn, hwi]
  refine ih (i + 1) (by omega) (by omega) _ _ ?_ rfl
  refine Agree.env _ ?_
  simp only [agw, seval]
 clear ih
 have e1 : decide ((i : Int) < (pr.structs.length : Int)) = false := decide_eq_false (by omega)
 refine ARun.go 60 ?_
 simp only [W, seval, c8, hn, e1]
 refine ARun.fits fun hf => ?_
 refine ARun.loopB (fun i : Nat => (envS 128 [(2, .ptr N 0), (3, .ptr (N + 1) 0), (6, .d (.int .i64 (i : Int)))], ⟨B ++ [[.d (.sl (pr.structs.map suD)), .d (.sl (pr.funcs.map fuD))], [.d (.sl (pr.structs.map suD)), .d (.sl (pr.funcs.map fuD))]], T⟩)) (fun i => i ≤ pr.funcs.length) (fun i => pr.funcs.length - i) 0 (by omega) ?_ rfl ?_
 ·skip
  refine Agree.env _ ?_
  simp only [agw, seval]
 clear hlt e1 h1 i
 rintro i h1 ih
 dsimp only at h1 ih ⊢
 by_cases hlt : i < pr.funcs.length
 case neg =>
  have e1 : decide ((i : Int) < (pr.funcs.length : Int)) = false := decide_eq_false (by omega)
  refine ARun.go 60 ?_
  simp only [W, seval, c8, hn, e1]
  refine ARun.ret Tryz.func8 rfl (Left.box ?_)
  exact ⟨rfl, rfl⟩
 have e1 : decide ((i : Int) < (pr.funcs.length : Int)) = true := decide_eq_true (by omega)
 have hwi := wrap_in ((i : Int) + 1) (by omega)
 have hg : (pr.funcs.map fuD)[i]? = some (fuD pr.funcs[i]) := by simp [hlt]
 generalize pr.funcs[i] = f at hg
 rw [fuD_eq] at hg
 have hst := sst_ab (SizeOf.sizeOf f.body) f.body fun s hs => Dp.of_size _ s (Nat.le_of_lt (List.sizeOf_lt_of_mem hs))
 refine ARun.go 60 ?_
 simp only [W, seval, c8, hn, e1, hg, hlt, decide_true, Bool.not_true]
 refine callS_fn (spas_ab f.params _ _) ?_
 rintro _ _ ⟨rfl, rfl⟩
 refine ARun.go 40 ?_
 simp only [W, seval, c8, hn, decide_true, Bool.not_true]
 refine callS_fn (hst _ _) ?_
 rintro _ _ ⟨rfl, rfl⟩
 refine ARun.go 40 ?_
 simp only [W, seval, c8, hn, decide_true, Bool.not_true]
 refine ARun.smQ 94 fun hq => ?_
 change sm (.d (.sl (f.results.map tyD))) = true at hq
 simp only [sm, List.length_map, decide_eq_true_eq] at hq
 refine ARun.loopW (fun j : Nat => (envS 128 [(2, .ptr N 0), (3, .ptr (N + 1) 0), (6, .d (.int .i64 (i : Int))), (7, .ptr (N + 2) 0), (8, .ptr (N + 3) 0), (9, .d (.int .i64 (j : Int)))], ⟨B ++ [[.d (.sl (pr.structs.map suD)), .d (.sl (pr.funcs.map fuD))], [.d (.sl (pr.structs.map suD)), .d (.sl (pr.funcs.map fuD))], [.d (.str f.name), .d (.sl (f.params.map paD)), .d (.sl (f.results.map tyD)), .d (.sl (f.body.map stD))], [.d (.str f.name), .d (.sl (f.params.map paD)), .d (.sl (f.results.map tyD)), .d (.sl (f.body.map stD))]], T⟩)) (fun j => j ≤ f.results.length) (fun j => f.results.length - j) 0 (by omega) ?_ rfl ?_
 ·skip
  refine Agree.env _ ?_
  simp only [agw, seval]
 rintro j m1 ih2
 dsimp only at m1 ih2 ⊢
 by_cases hj : j < f.results.length
 case neg =>
  have e3 : decide ((j : Int) < (f.results.length : Int)) = false := decide_eq_false (by omega)
  refine ARun.goK (k := [_, _, _, _, _]) 60 ?_
  simp only [W, seval, c8, hn, e3, hwi]
  have hap : ∀ a b x y : List V, B ++ [a, b, x, y] = (B ++ [a, b]) ++ [x, y] := fun a b x y => by simp
  rw [hap]
  refine ih (i + 1) (by omega) (by omega) _ _ _ T rfl ⟨by simp; omega, Nat.le_refl _⟩ hf ?_
  refine AgreeF.env _ ?_
  simp only [agf, seval, hn, List.length_append, List.length_cons, List.length_nil, Nat.zero_add, Nat.reduceAdd, hN0, hN1, hN2, hN3]
 have e3 : decide ((j : Int) < (f.results.length : Int)) = true := decide_eq_true (by omega)
 have hwj := wrap_in ((j : Int) + 1) (by omega)
 have hgj : (f.results.map tyD)[j]? = some (tyD f.results[j]) := by simp [hj]
 generalize f.results[j] = t at hgj
 rw [tyD_eq] at hgj
 have hty := sty_ab t
 unfold STy tyV at hty
 refine ARun.goK (k := [_, _]) 30 ?_
 simp only [W, seval, c8, hn, e3]
 refine ARun.draw (by kernel_rfl) (by kernel_rfl) (lexQ_ok 60 _ _ ?_)
 simp only [W, seval, c8, hn, hgj, hj, decide_true, Bool.not_true]
 refine ⟨_, hty _ _, ?_⟩
 simp only [W, seval, c8]
 refine ARun.goK (k := [_, _, _]) 30 ?_
 simp only [W, seval, c8, hn, hwj]
 refine ih2 (j + 1) (by omega) (by omega) _ _ ?_ rfl
 refine Agree.env _ ?_
 simp only [agw, seval]
theorem posE_mk (k : Int) (t : List UInt8) (i : Int) (ty : TyT) (ns : List (List UInt8)) (ks : List ExT) : posE (.mk k t i ty ns ks) = ((k = 3 → 0 ≤ i) ∧ ∀ x ∈ ks, posE x) := by
 conv => lhs; unfold posE
def PE (E : EP) : Prop := ∀ s, posE (E s).1
theorem pos_vals {E : EP} (h : PE E) : ∀ (m : Nat) (s : Ps), ∀ x ∈ (valsP E m s).1, posE x
 | 0, s => by unfold valsP; simp
 | m + 1, s => by
  have ih := pos_vals h m
  have hs := h s
  unfold valsP
  grind
theorem pos_list {E : EP} (h : PE E) (en : List UInt8) (c : Bool) : ∀ (m : Nat) (s : Ps), ∀ x ∈ (listL E en c m s).1, posE x
 | 0, s => by unfold listL; simp
 | m + 1, s => by
  have ih := pos_list h en c m
  have hs := h s
  unfold listL
  grind
theorem pos_listP {E : EP} (h : PE E) (en : List UInt8) (c : Bool) (m : Nat) (s : Ps) : ∀ x ∈ (listP E en c m s).1, posE x := by
 have := pos_list h en c m s
 unfold listP
 grind
theorem pos_args {E : EP} (h : PE E) (fl : Bool) (m : Nat) (s : Ps) : ∀ x ∈ (argsP fl E m s).1, posE x := by
 have h1 := pos_listP h [41] false m s
 have h2 := pos_vals h m s
 unfold argsP
 grind
theorem pos_fld {E : EP} (h : PE E) : ∀ (m : Nat) (s : Ps), ∀ x ∈ (fldL E m s).1.2, posE x
 | 0, s => by unfold fldL; simp
 | m + 1, s => by
  have ih := pos_fld h m
  have hs := h
  unfold PE at hs
  unfold fldL
  grind
theorem pos_named {E : EP} (h : PE E) (fl : Bool) (m : Nat) (s : Ps) : posE (namedP fl E m s).1 := by
 have h1 := pos_args h fl m
 have h2 := pos_fld h m
 unfold namedP
 grind [posE_mk]
theorem pos_keyed {E : EP} (h : PE E) (s : Ps) : posE (keyedP E s).1 := by
 have hs := h
 unfold PE at hs
 unfold keyedP
 grind [posE_mk]
theorem pos_zero : posE zeroE := by unfold zeroE; rw [posE_mk]; simp
theorem pos_prim {E : EP} (h : PE E) (fl : Bool) (m : Nat) (s : Ps) : posE (primP fl E m s).1 := by
 have hs := h
 unfold PE at hs
 have h1 := pos_named h fl m
 have h2 := pos_keyed h
 have h3 := pos_listP h [125] true m
 have h4 := pos_zero
 unfold primP
 grind [posE_mk]
theorem pos_pst {E : EP} (h : PE E) : ∀ (m : Nat) (x : ExT) (s : Ps), posE x → posE (pstL E m x s).1
 | 0, x, s, hx => by unfold pstL; exact hx
 | m + 1, x, s, hx => by
  have ih := pos_pst h m
  have hs := h
  unfold PE at hs
  unfold pstL
  by_cases he : ¬ s.e = 0
  ·rw [if_pos he]; exact hx
  rw [if_neg he]
  rcases gotP s [46] with ⟨b, s1⟩
  cases b
  case true => exact ih _ _ (by rw [posE_mk]; simp [hx])
  dsimp only
  rcases gotP s [91] with ⟨b, s1⟩
  cases b
  case false => exact hx
  dsimp only
  have hy := hs s1
  rcases h2 : E s1 with ⟨y, s2⟩
  rw [h2] at hy
  dsimp only at hy ⊢
  rcases gotP s2 [58] with ⟨b, s3⟩
  cases b
  case false => exact ih _ _ (by rw [posE_mk]; simp [hx, hy])
  dsimp only
  have hz := hs s3
  rcases h3 : E s3 with ⟨z, s4⟩
  rw [h3] at hz
  dsimp only at hz
  exact ih _ _ (by rw [posE_mk]; simp [hx, hy, hz])
theorem pos_sgn : ∀ (m : Nat) (s : Ps), ∀ k ∈ (sgnL m s).1, k = 4 ∨ k = 5
 | 0, s => by unfold sgnL; simp
 | m + 1, s => by
  have ih := pos_sgn m
  unfold sgnL
  grind
theorem pos_signT : ∀ (l : List Int) (x : ExT), (∀ k ∈ l, k = 4 ∨ k = 5) → posE x → posE (signT l x)
 | [], x, _, hx => hx
 | k :: l, x, hl, hx => by
  have ih := pos_signT l x (fun k hk => hl k (List.mem_cons_of_mem _ hk)) hx
  have hk := hl k List.mem_cons_self
  unfold signT
  grind [posE_mk]
theorem pos_oper {E : EP} (h : PE E) (fl : Bool) (m : Nat) : PE (operP fl E m) := by
 intro s
 have h1 := pos_prim h fl m
 have h2 := pos_pst h m
 have h3 := pos_sgn m s
 have h4 := pos_signT
 unfold operP
 grind
theorem pos_rank {O : EP} (h : PE O) (r : Int) : ∀ (m : Nat) (x : ExT) (s : Ps), posE x → posE (rankL O r m x s).1
 | 0, x, s, hx => by unfold rankL; exact hx
 | m + 1, x, s, hx => by
  have ih := pos_rank h r m
  have hs := h
  unfold PE at hs
  unfold rankL
  grind [posE_mk]
theorem pos_climb {O : EP} (h : PE O) (m : Nat) : ∀ k : Nat, PE (climbP O m k)
 | 0 => by intro s; unfold climbP; exact h s
 | k + 1 => by
  intro s
  have ih := pos_climb h m k
  have h1 := pos_rank ih (5 - (k : Int)) m
  have hs := h s
  unfold PE at ih
  unfold climbP
  grind
theorem pos_expr (fl : Bool) : ∀ n : Nat, PE (exprF fl n)
 | 0 => fun s => by unfold exprF; exact pos_zero
 | n + 1 => fun s => by
  unfold exprF
  exact pos_climb (pos_oper (pos_expr fl n) fl (n + 1)) (n + 1) 5 s
theorem pos_head {E : EP} (h : PE E) (s : Ps) : posE (headP E s).1 := h _
theorem pos_dot : ∀ (m : Nat) (x : ExT) (s : Ps), posE x → posE (dotL m x s).1
 | 0, x, s, hx => hx
 | m + 1, x, s, hx => by
  unfold dotL
  rcases gotP s [46] with ⟨b, s1⟩
  cases b
  case false => exact hx
  exact pos_dot m _ _ (by rw [posE_mk]; simp [hx])
theorem pos_left (m : Nat) : ∀ (k : Nat) (s : Ps), ∀ x ∈ (leftL m k s).1, posE x
 | 0, s => by unfold leftL; simp
 | k + 1, s => by
  have ih := pos_left m k
  have h1 : ∀ t s1, posE (dotL m (.mk 1 t 0 noT [] []) s1).1 := fun t s1 => pos_dot m _ _ (by rw [posE_mk]; simp)
  unfold leftL
  grind
def PoSt (s : StT) : Prop := ∀ n, posSt n s
theorem poSt_mk {k : Int} {ns : List (List UInt8)} {ty : TyT} {ls es : List ExT} {b e : List StT} {cs : List CaT} (h1 : ∀ x ∈ ls, posE x) (h2 : ∀ x ∈ es, posE x) (h3 : ∀ x ∈ b, PoSt x) (h4 : ∀ x ∈ e, PoSt x) (h5 : ∀ c ∈ cs, ∀ x ∈ c.body, PoSt x) : PoSt (.mk k ns ty ls es b e cs)
 | 0 => trivial
 | n + 1 => ⟨h1, h2, fun x hx => h3 x hx n, fun x hx => h4 x hx n, fun c hc x hx => h5 c hc x hx n⟩
def PS (S : SP) : Prop := ∀ s, PoSt (S s).1
theorem pos_set {E : EP} (h : PE E) (m : Nat) (s : Ps) : PoSt (setP E m s).1 := by
 have h1 := pos_left m m s
 have h2 := pos_vals h m
 unfold setP
 rcases h3 : leftL m m s with ⟨l, s1⟩
 rw [h3] at h1
 have h4 := h2 (wantP s1 [61])
 exact poSt_mk h1 h4 (fun _ h => nomatch h) (fun _ h => nomatch h) fun _ h => nomatch h
theorem pos_stmts {S : SP} (h : PS S) : ∀ (m : Nat) (s : Ps), ∀ x ∈ (stmtsL S m s).1, PoSt x
 | 0, s => by unfold stmtsL; simp
 | m + 1, s => by
  have ih := pos_stmts h m
  have hs := h s
  unfold stmtsL
  grind
theorem pos_block {S : SP} (h : PS S) (m : Nat) (s : Ps) : ∀ x ∈ (blockP S m s).1, PoSt x := pos_stmts h m _
theorem pos_cas {S : SP} (h : PS S) (k : Nat) : ∀ (m : Nat) (s : Ps), ∀ c ∈ (casL S k m s).1, ∀ x ∈ c.body, PoSt x
 | 0, s => by unfold casL; simp
 | m + 1, s => by
  have ih := pos_cas h k m
  have hs := pos_stmts h k
  unfold casL
  rcases gotP s [99, 97, 115, 101] with ⟨b, s1⟩
  cases b
  case false => exact fun _ h => nomatch h
  dsimp only
  intro c hc
  rcases List.mem_cons.1 hc with rfl | hc
  ·exact hs _
  ·exact ih _ c hc
theorem pos_else {S : SP} (h : PS S) (m : Nat) (s : Ps) : ∀ x ∈ (elseP S m s).1, PoSt x := by
 have hs := pos_stmts h m
 unfold elseP
 rcases gotP s [100, 101, 102, 97, 117, 108, 116] with ⟨b, s1⟩
 cases b
 case false => exact fun _ h => nomatch h
 exact hs _
theorem pos_stmt {E : EP} {S : SP} (hE : PE E) (hS : PS S) (m : Nat) : PS (stmtP E S m) := by
 intro s
 have n1 : ∀ x ∈ ([] : List ExT), posE x := fun _ h => nomatch h
 have n2 : ∀ x ∈ ([] : List StT), PoSt x := fun _ h => nomatch h
 have n3 : ∀ c ∈ ([] : List CaT), ∀ x ∈ c.body, PoSt x := fun _ h => nomatch h
 have one : ∀ s, ∀ x ∈ [(headP E s).1], posE x := fun s x hx => by rw [List.mem_singleton.1 hx]; exact pos_head hE s
 unfold stmtP
 rcases gotP s [118, 97, 114] with ⟨b, s1⟩
 cases b
 case true => exact poSt_mk n1 n1 n2 n2 n3
 dsimp only
 rcases gotP s [105, 102] with ⟨b, s1⟩
 cases b
 case true =>
  dsimp only
  rcases gotP (blockP S m (headP E s1).2).2 [101, 108, 115, 101] with ⟨b, s4⟩
  cases b
  ·exact poSt_mk n1 (one s1) (pos_block hS m _) n2 n3
  ·exact poSt_mk n1 (one s1) (pos_block hS m _) (pos_block hS m _) n3
 dsimp only
 rcases gotP s [102, 111, 114] with ⟨b, s1⟩
 cases b
 case true => exact poSt_mk n1 (one s1) (pos_block hS m _) n2 n3
 dsimp only
 rcases gotP s [115, 119, 105, 116, 99, 104] with ⟨b, s1⟩
 cases b
 case true => exact poSt_mk n1 (one s1) n2 (pos_else hS m _) (pos_cas hS m m _)
 dsimp only
 rcases gotP s [114, 101, 116, 117, 114, 110] with ⟨b, s1⟩
 cases b
 case true => exact poSt_mk n1 (pos_vals hE m s1) n2 n2 n3
 exact pos_set hE m s
theorem pos_stmtF (fl : Bool) : ∀ n : Nat, PS (stmtF fl n)
 | 0 => fun s => by
  unfold stmtF
  exact poSt_mk (fun _ h => nomatch h) (fun _ h => nomatch h) (fun _ h => nomatch h) (fun _ h => nomatch h) fun _ h => nomatch h
 | n + 1 => fun s => by
  unfold stmtF
  exact pos_stmt (pos_expr fl (n + 1)) (pos_stmtF fl n) (n + 1) s
theorem pos_func {S : SP} (hS : PS S) (m : Nat) (s : Ps) : ∀ x ∈ (funcP S m s).1.body, PoSt x := pos_block hS m _
theorem pos_decl {S : SP} (hS : PS S) (k : Nat) : ∀ (m : Nat) (s : Ps) (p : PrT), (∀ f ∈ p.funcs, ∀ x ∈ f.body, PoSt x) → ∀ f ∈ (declL S k m s p).1.funcs, ∀ x ∈ f.body, PoSt x
 | 0, s, p, h => h
 | m + 1, s, p, h => by
  unfold declL
  split
  case isFalse => exact h
  rcases gotP s [116, 121, 112, 101] with ⟨b, s1⟩
  cases b
  case true => exact pos_decl hS k m _ _ h
  dsimp only
  rcases gotP s [102, 117, 110, 99] with ⟨b, s1⟩
  cases b
  case true =>
   refine pos_decl hS k m _ _ fun f hf => ?_
   rcases List.mem_append.1 hf with hf | hf
   ·exact h f hf
   ·rw [List.mem_singleton.1 hf]
    exact pos_func hS k s1
  exact pos_decl hS k m _ _ h
theorem pos_prog (fl : Bool) (n : Nat) (s : Ps) : ∀ f ∈ (progP fl n s).1.funcs, ∀ x ∈ f.body, PoSt x := pos_decl (pos_stmtF fl n) n n _ _ fun _ h => nomatch h
def c3 := by
 have c := KK_of Tryz.f3 (by conv => lhs; cbv)
 dsimp only [KK, KxP, doO, opO, List.map_cons, List.map_nil, List.toList_toArray] at c
 exact c
theorem b3 : FnIs Tryz.prog 3 Tryz.f3 32 := ⟨Tryz.func3, by kernel_rfl⟩
theorem rg_eq (p : PrT) (h : ∀ f ∈ p.funcs, ∀ x ∈ f.body, PoSt x) : rgP p = rgR p := pr_agr (SizeOf.sizeOf p.funcs) p fun f hf x hx => h f hf x hx _
theorem both_ab (bs : List UInt8) (hl : bs.length ≤ 2500) : ∃ (p : PrT) (e : Int), (∀ S, AFn Tryz.prog TabI 6 [.d (.sl (byD bs))] S (Same (.tup [prV p, .d (.int .i64 e)]) S)) ∧ ∀ B T, AFn Tryz.prog TabI 7 [.d (.sl (byD bs))] ⟨B, T⟩ (Same (.tup [prV p, .d (.int .i64 e)]) ⟨B, T⟩) := by
 have hf := fin_eq bs (bs.length + 5) (Nat.le_refl _) rgP rgR (rg_eq _ (pos_prog false _ _))
 have h1 := parseP_ab bs trivial (by omega) (bs.length + 5) (Nat.le_refl _)
 have h2 := parseR_ab bs (by omega) (bs.length + 5) (Nat.le_refl _) rgR rgR_ab
 rw [← hf] at h2
 exact ⟨_, _, fun S => h1 S.boxes S.toks, h2⟩
set_option maxHeartbeats 4000000 in
theorem law_ab (bs : List UInt8) : AFn Tryz.prog TabI 3 [.d (.sl (byD bs))] ⟨[], []⟩ (fun v _ => v = .d (.bool true)) := by
 have hlen : (byD bs).length = bs.length := by simp [byD]
 by_cases hl : bs.length ≤ 2500
 case neg =>
  have e := decide_eq_true (show (2500 : Int) < (bs.length : Int) by omega)
  refine b3.go 30 rfl fun hsm => ?_
  simp only [smw] at hsm
  simp only [W, seval, c3, hlen, e]
  refine callS_fn (works25_ab _) ?_
  rintro _ _ ⟨rfl, rfl⟩
  refine ARun.go 60 ?_
  simp only [W, seval, c3]
  refine ARun.ret Tryz.func3 rfl (Left.empty ?_)
  exact rfl
 have e := decide_eq_false (show ¬ (2500 : Int) < (bs.length : Int) by omega)
 obtain ⟨p, x, h1, h2⟩ := both_ab bs hl
 have h3 := spr_ab p
 unfold prV at h1 h2 h3
 refine b3.go 30 rfl fun hsm => ?_
 simp only [smw] at hsm
 simp only [W, seval, c3, hlen, e]
 refine callS_fn (h1 _) ?_
 rintro _ _ ⟨rfl, rfl⟩
 refine ARun.go 60 ?_
 simp only [W, seval, c3]
 refine callS_fn (h2 _ _) ?_
 rintro _ _ ⟨rfl, rfl⟩
 refine ARun.go 60 ?_
 simp only [W, seval, c3]
 refine callS_fn (h3 _ _) ?_
 rintro _ _ ⟨rfl, rfl⟩
 refine ARun.go 60 ?_
 simp only [W, seval, c3, decide_true]
 refine callS_fn (works25_ab _) ?_
 rintro _ _ ⟨rfl, rfl⟩
 refine ARun.go 60 ?_
 simp only [W, seval, c3]
 refine ARun.ret Tryz.func3 rfl (Left.empty ?_)
 exact rfl
end Go.Proofs.YtnnnhlkmdnacaaaGreatDoor
namespace Go.Ab
open Go.ChangeShapes Go.WideShapes Go.ChangeAt Go.RowKit Go.Av
def wfFs (T : TypeId → List D → Prop) : List Field → List D → Prop
 | [], ds => ds = []
 | f :: fs, ds => ∃ a b, ds = a ++ b ∧ T f.type a ∧ wfFs T fs b
def wfT (P : Program) : Nat → TypeId → List D → Prop
 | 0, _, _ => False
 | n + 1, t, ds => match P.underlying t with
  | some .bool => ∃ b, ds = [.bool b]
  | some (.int k) => ∃ m, ds = [.int k m] ∧ (Lit.int k m).wf = true
  | some .string => ∃ s, ds = [.str s] ∧ s.length ≤ 9223372036854775807
  | some (.slice e) => ∃ rows, ds = [.sl rows] ∧ rows.length ≤ 9223372036854775807 ∧ ∀ r ∈ rows, wfT P n e r
  | some (.struct fs) => wfFs (wfT P n) fs.toList ds
  | _ => False
def offsOf (P : Program) : List Field → Nat → Option Nat
 | [], o => some o
 | f :: fs, o => if f.offset = o then offsOf P fs (o + P.cellsOf f.type) else none
def plainT (P : Program) (L : List TypeId) (t : TypeId) : Bool :=
 match P.underlying t with
 | some .bool => true
 | some (.int _) => true
 | some .string => true
 | some (.slice e) => L.contains e && decide (0 < P.cellsOf e)
 | some (.struct fs) => fs.toList.all (fun f => L.contains f.type) && offsOf P fs.toList 0 == some (P.cellsOf t)
 | _ => false
theorem list_of2 {α : Type} (Q : Nat → α → Prop) : ∀ len : Nat, (∀ i < len, ∃ a, Q i a) → ∃ l : List α, l.length = len ∧ ∀ i (hi : i < l.length), Q i l[i]
 | 0, _ => ⟨[], rfl, fun i hi => by cases hi⟩
 | n + 1, h => by
  obtain ⟨l, hl, hq⟩ := list_of2 Q n (fun i hi => h i (by omega))
  obtain ⟨a, ha⟩ := h n (by omega)
  refine ⟨l ++ [a], by simp [hl], fun i hi => ?_⟩
  by_cases hin : i < l.length
  ·rw [List.getElem_append_left hin]
   exact hq i hin
  ·have : i = n := by simp at hi; omega
   subst this
   have hla : (l ++ [a])[i]'hi = a := by
    rw [List.getElem_append_right (by omega)]
    simp
   rw [hla]
   exact ha
theorem cell_in2 {w : World} {a : Addr} {v : Value} (h : w.cell? a = some v) : a.block < w.heap.size ∧ a.spot = none := by
 unfold World.cell? at h
 cases hb : w.heap[a.block]? with
 | none => rw [hb] at h; cases h
 | some o =>
  refine ⟨(Array.getElem?_eq_some_iff.1 hb).1, ?_⟩
  rw [hb] at h
  cases o <;> simp at h
  obtain ⟨h1, _⟩ := h
  exact h1
section
variable {P : Program} {H : Type} {enc : TypeId × Value → H} {W : World} {sp : Nat → Bool} {held : Bool}
abbrev NewM (W : World) : Nat → Nat → Prop := fun g _ => W.heap.size ≤ g
def Opened (P : Program) (W : World) (n : Nat) (t : TypeId) (cs : List Value) (ds : List D) : Prop := wfT P n t ds ∧ ds.length = cs.length ∧ ∀ j (h : j < ds.length), DR (NewM W) W ds[j] (cs.getD j undef)
theorem open_fields (n : Nat) (cs : List Value) : ∀ (l : List Field) (o : Nat), offsOf P l o = some cs.length →
 (∀ f ∈ l, ∃ ds, Opened P W n f.type ((cs.drop f.offset).take (P.cellsOf f.type)) ds) → o ≤ cs.length ∧ ∃ ds, wfFs (wfT P n) l ds ∧ ds.length = cs.length - o ∧ ∀ j (h : j < ds.length), DR (NewM W) W ds[j] (cs.getD (o + j) undef)
 | [], o, h, _ => by
  have : o = cs.length := Option.some.inj h
  exact ⟨by omega, [], rfl, by simp; omega, fun j h => by simp at h⟩
 | f :: fs, o, h, hf => by
  unfold offsOf at h
  split at h
  case isFalse => cases h
  rename_i ho
  obtain ⟨a, a1, a2, a3⟩ := hf f List.mem_cons_self
  obtain ⟨b0, b, b1, b2, b3⟩ := open_fields n cs fs _ h fun g hg => hf g (List.mem_cons_of_mem _ hg)
  rw [ho] at a2 a3
  have ha : a.length = P.cellsOf f.type := by rw [a2, List.length_take, List.length_drop]; omega
  refine ⟨by omega, a ++ b, ⟨a, b, rfl, a1, b1⟩, by rw [List.length_append, b2]; omega, fun j hj => ?_⟩
  rcases Nat.lt_or_ge j a.length with hlt | hge
  ·rw [List.getElem_append_left hlt]
   have := a3 j hlt
   rw [List.getD_eq_getElem?_getD, List.getElem?_take, if_pos (by omega), List.getElem?_drop] at this
   rw [List.getD_eq_getElem?_getD]
   exact this
  ·rw [List.getElem_append_right hge]
   have := b3 (j - a.length) (by rw [List.length_append] at hj; omega)
   rw [show o + P.cellsOf f.type + (j - a.length) = o + j by omega] at this
   exact this
theorem open_D (L : List TypeId) (hL : L.all (plainT P L) = true) : ∀ (fuel : Nat) (t : TypeId) (cs : List Value) (y : DataW H × List MemPlace), L.contains t = true → DataW.trod enc P W 0 sp held fuel t cs = some y → ∃ ds, Opened P W fuel t cs ds := by
 intro fuel
 induction fuel with
 | zero => intro t cs y _ h; simp [DataW.trod] at h
 | succ n ih =>
  intro t cs y ht h
  have hpl := List.all_eq_true.1 hL t (List.contains_iff_mem.1 ht)
  unfold plainT at hpl
  split at hpl
  ·rename_i hu
   obtain ⟨b, rfl, _⟩ := DataW.trod_bool hu h
   refine ⟨[.bool b], ?_, rfl, fun j hj => ?_⟩
   ·simp only [wfT, hu]; exact ⟨b, rfl⟩
   ·have : j = 0 := by simp at hj; exact hj
    subst this; exact .bool b
  ·rename_i k hu
   obtain ⟨m, rfl, _, hw⟩ := DataW.trod_int hu h
   refine ⟨[.int k m], ?_, rfl, fun j hj => ?_⟩
   ·simp only [wfT, hu]; exact ⟨m, rfl, hw⟩
   ·have : j = 0 := by simp at hj; exact hj
    subst this; exact .int k m
  ·rename_i hu
   obtain ⟨s, rfl, _, hs⟩ := DataW.trod_string hu h
   have hsl : s.data.toList.length ≤ 9223372036854775807 := by
    have : s.data.toList.length = s.size := by rw [Array.length_toList]; rfl
    rw [this]
    exact hs
   refine ⟨[.str s.data.toList], ?_, rfl, fun j hj => ?_⟩
   ·simp only [wfT, hu]; exact ⟨_, rfl, hsl⟩
   ·have : j = 0 := by simp at hj; exact hj
    subst this
    have := DR.str (M := NewM W) (w := W) s.data.toList hsl
    exact this
  ·rename_i e hu
   simp only [Bool.and_eq_true, decide_eq_true_eq] at hpl
   obtain ⟨he, hpos⟩ := hpl
   rcases DataW.trod_slice hu h with ⟨rfl, _⟩ | ⟨a, len, cap, elems, rest, n', hn', rfl, _, _, hlc, hcm, hel, hq, _⟩
   ·refine ⟨[.sl []], ?_, rfl, fun j hj => ?_⟩
    ·simp only [wfT, hu]; exact ⟨[], rfl, by simp, by simp⟩
    ·have : j = 0 := by simp at hj; exact hj
     subst this
     exact .sl [] 1 none 0 (fun _ _ => undef) (by omega) (by simp) (by simp) (by omega) (fun h => absurd rfl h) (fun j h => by simp at h)
   ·obtain rfl : n = n' := by omega
    obtain ⟨rows, hrl, hrq⟩ := list_of2 (fun i (ds : List D) => ∃ ci, W.cells? 0 (a.add (i * P.cellsOf e)) (P.cellsOf e) = some ci ∧ Opened P W n e ci ds) len (fun i hi => by
     have hqi := hq i hi
     rw [List.getElem?_eq_getElem (by omega), Option.bind_eq_some_iff] at hqi
     obtain ⟨ci, hci, hti⟩ := hqi
     obtain ⟨ds, hds⟩ := ih e ci _ he hti
     exact ⟨ds, ci, hci, hds⟩)
    subst hrl
    have hci : ∀ i (hi : i < rows.length), (rows[i]).length = P.cellsOf e ∧ ∀ q (h : q < (rows[i]).length), ∃ v, W.cell? (a.add (i * P.cellsOf e + q)) = some v ∧ DR (NewM W) W (rows[i])[q] v := by
     intro i hi
     obtain ⟨ci, h1, h2, h3, h4⟩ := hrq i hi
     have h5 := World.cells?_some h1
     have hlen : ci.length = P.cellsOf e := h5.2.1
     refine ⟨by omega, fun q hq => ?_⟩
     have h6 := h5.2.2 q (by omega)
     rw [Addr.add_add] at h6
     refine ⟨ci[q]'(by omega), by rw [h6]; simp, ?_⟩
     have h7 := h4 q hq
     rw [List.getD_eq_getElem?_getD, List.getElem?_eq_getElem (by omega)] at h7
     exact h7
    refine ⟨[.sl rows], ?_, rfl, fun j hj => ?_⟩
    ·simp only [wfT, hu]
     refine ⟨rows, rfl, by have : maxLen = 9223372036854775807 := rfl; omega, fun r hr => ?_⟩
     obtain ⟨i, hi, rfl⟩ := List.mem_iff_getElem.1 hr
     obtain ⟨ci, _, h2, _⟩ := hrq i hi
     exact h2
    ·have : j = 0 := by simp at hj; exact hj
     subst this
     have haddr : rows ≠ [] → a.block < W.heap.size ∧ a.spot = none := by
      intro hne
      have h0 : 0 < rows.length := by
       rcases Nat.eq_zero_or_pos rows.length with e' | e'
       ·exact absurd (List.eq_nil_of_length_eq_zero e') hne
       ·exact e'
      obtain ⟨hl0, hc0⟩ := hci 0 h0
      obtain ⟨v, hv, _⟩ := hc0 0 (by omega)
      rw [show a.add (0 * P.cellsOf e + 0) = a by rw [Nat.zero_mul]; rfl] at hv
      exact cell_in2 hv
     have := DR.sl (M := NewM W) (w := W) rows (P.cellsOf e) (some a) cap (fun i q => (W.cell? (a.add (i * P.cellsOf e + q))).getD undef) hpos (fun r hr => by
      obtain ⟨i, hi, rfl⟩ := List.mem_iff_getElem.1 hr
      exact (hci i hi).1) hlc (by have : maxLen = 9223372036854775807 := rfl; omega) (fun hne => by
      obtain ⟨h1, h2⟩ := haddr hne
      obtain ⟨g, off, spot⟩ := a
      simp only at h1 h2
      subst h2
      refine ⟨g, off, rfl, fun j hj q hq => ⟨by show ¬ W.heap.size ≤ g; omega, ?_⟩⟩
      obtain ⟨v, hv, _⟩ := (hci j hj).2 q hq
      rw [hv]
      rw [Addr.add_plain, ← Nat.add_assoc] at hv
      exact hv) (fun j hj q hq => by
      obtain ⟨v, hv, hd⟩ := (hci j hj).2 q hq
      rw [hv]
      exact hd)
     exact this
  ·rename_i fs hu
   simp only [Bool.and_eq_true] at hpl
   obtain ⟨hfs, hoff⟩ := hpl
   obtain ⟨xs, n', hn', _, hl, hxl, hf⟩ := DataW.trod_struct hu h
   obtain rfl : n = n' := by omega
   have hoff' : offsOf P fs.toList 0 = some cs.length := by rw [hl]; exact eq_of_beq hoff
   obtain ⟨_, ds, h1, h2, h3⟩ := open_fields (W := W) n cs fs.toList 0 hoff' (fun f hfm => by
    obtain ⟨i, hi, rfl⟩ := List.mem_iff_getElem.1 hfm
    have hi' : i < fs.size := by simpa using hi
    have := hf i fs[i] (by simp [hi'])
    rw [List.getElem?_eq_getElem (by omega)] at this
    exact ih _ _ _ (List.all_eq_true.1 hfs _ hfm) this)
   refine ⟨ds, ?_, by omega, fun j hj => ?_⟩
   ·simp only [wfT, hu]; exact h1
   ·have := h3 j hj
    rwa [Nat.zero_add] at this
  ·cases hpl
end
def cx0 (W : World) (I : Inv) : Cx := ⟨W.heap.size, [], [], I, fun _ _ => False, fun _ _ h => h.elim⟩
theorem DR.first {W : World} {I : Inv} {x : D} {v : Value} (h : DR (NewM W) W x v) : DR (cx0 W I).M W x v := h.mono fun g k v _ hv => ⟨by
 rintro ((hm | hm) | ⟨t, i, off, ht, _⟩)
 ·exact hm
 ·simp [cx0] at hm
 ·simp [cx0] at ht, hv⟩
theorem Rep.first {W : World} {I : Inv} (h2 : I.top ≤ W.heap.size) (hI : ∀ w', Below W.heap.size W w' → I.holds w') : Rep (cx0 W I) W ⟨[], []⟩ :=
 ⟨⟨h2, Nat.le_refl _⟩, rfl, fun i b h => by simp [cx0] at h, fun i j b h => by simp [cx0] at h, rfl, fun t i h => by simp [cx0] at h, fun t t' i i' g off off' h => by simp [cx0] at h, hI⟩
theorem first_one {P : Program} {W : World} {I : Inv} {n : Nat} {t : TypeId} {v : Value} {d : D} (h : Opened P W n t [v] [d]) : VR (cx0 W I) W (.d d) v := .d _ _ (h.2.2 0 (by simp)).first
theorem AFn.law {P : Program} {I : Inv} {f : FuncId} {args : List V} {b : Bool} (h : AFn P I f args ⟨[], []⟩ (fun v _ => v = .d (.bool b))) {W : World} {xs : Array Value} (h2 : I.top ≤ W.heap.size) (hI : ∀ w', Below W.heap.size W w' → I.holds w') (hs : xs.size = args.length) (hv : ∀ j (h : j < args.length), VR (cx0 W I) W args[j] (xs.getD j undef)) :
 Calls P f xs W fun e w' => e = .returned (.bool b) ∧ Below W.heap.size W w' := by
 refine (h.2 (cx0 W I) W xs hs hv (.first h2 hI) rfl).mono ?_
 rintro e w' ⟨v, x, S', c', rfl, rfl, _, hx, hvr⟩
 cases hvr with
 | d _ _ hd => cases hd with
  | bool _ => exact ⟨rfl, hx.below⟩
end Go.Ab
namespace Go.Proofs.YtnnnhlkmdnacaaaGreatDoor
open Go.RowKit Go.Av Go.Ab
set_option maxRecDepth 100000
def byL : List TypeId := [22, 5]
theorem byL_ok : byL.all (plainT Tryz.prog byL) = true := by kernel_rfl
theorem wf_byte {n : Nat} {r : List D} (h : wfT Tryz.prog n 5 r) : ∃ b : UInt8, r = byteRow b := by
 cases n with
 | zero => exact h.elim
 | succ n =>
  unfold wfT at h
  rw [Tryz.underlying5] at h
  obtain ⟨m, rfl, hm⟩ := h
  have h1 : IntKind.u8.min = 0 ∧ IntKind.u8.max = 255 := by decide
  simp only [Lit.wf, h1, Bool.and_eq_true, decide_eq_true_eq] at hm
  refine ⟨UInt8.ofNat m.toNat, ?_⟩
  have : ((UInt8.ofNat m.toNat).toNat : Int) = m := by rw [UInt8.toNat_ofNat']; omega
  unfold byteRow
  rw [this]
theorem wf_bytes {n : Nat} {ds : List D} (h : wfT Tryz.prog n 22 ds) : ∃ bs : List UInt8, ds = [.sl (byD bs)] := by
 cases n with
 | zero => exact h.elim
 | succ n =>
  unfold wfT at h
  rw [Tryz.underlying22] at h
  obtain ⟨rows, rfl, hl0, hr⟩ := h
  clear hl0
  have : ∃ l : List UInt8, rows = l.map byteRow := by
   induction rows with
   | nil => exact ⟨[], rfl⟩
   | cons r rows ihr =>
    obtain ⟨x, hx⟩ := wf_byte (hr r List.mem_cons_self)
    obtain ⟨l, hl⟩ := ihr fun y hy => hr y (List.mem_cons_of_mem _ hy)
    exact ⟨x :: l, by rw [hx, hl]; rfl⟩
  obtain ⟨l, rfl⟩ := this
  exact ⟨l, rfl⟩
end Go.Proofs.YtnnnhlkmdnacaaaGreatDoor
namespace Go.Proofs.YtnnnhlkmdnacaaaGreatDoor
open Go.ChangeShapes Go.WideShapes Go.ChangeAt Go.RowKit Go.Av
theorem laidOut : laidOutB Tryz.prog = true := by kernel_rfl
theorem kept_arg {H : Type} {enc : TypeId × Value → H} {t : TypeId} {W W' : World} {v : Value} {d : DataW H} {ps : List MemPlace} (hr : Tryz.prog.readableRec t = true) (hrow : t < Tryz.prog.types.size)
 (h : DataW.Trod enc Tryz.prog W 0 (fun _ => true) true t v d ps) (hb : Below W.heap.size W W') (hlt : ∀ x ∈ ps, x.block < W.heap.size) : DataW.Trod enc Tryz.prog W' 0 (fun b => decide (b < W.heap.size)) true t v d ps :=
 Below.trod laidOut hr hrow h hb hlt
end Go.Proofs.YtnnnhlkmdnacaaaGreatDoor
namespace Go.Av
def textData {H : Type} (zs : List (List UInt8)) : DataW H := .agg (zs.map fun z => .lit (.string z))
theorem cells_of_texts {H : Type} {enc : TypeId × Value → H} {P : Program} {w : World} {base : Nat} {sp : Nat → Bool} {held : Bool} {fuel : Nat} {t e : TypeId} {n : Nat} {cs : List Value} {zs : List (List UInt8)} {p : List MemPlace}
 (ht : P.underlying t = some (.array n e)) (he : P.underlying e = some .string) (hce : P.cellsOf e = 1) (hct : P.cellsOf t = n)
 (h : DataW.trod enc P w base sp held fuel t cs = some (textData zs, p)) : cs = zs.map fun z => Value.string ⟨z.toArray⟩ := by
 cases fuel with
 | zero => simp [DataW.trod] at h
 | succ fuel =>
  simp only [DataW.trod, ht, hce, hct, Nat.mul_one] at h
  split at h
  ·rename_i hl
   obtain ⟨xs, hm, hx⟩ := Option.map_eq_some_iff.1 h
   have hxs : xs.map (·.1) = zs.map fun z => (DataW.lit (.string z) : DataW H) := by
    have := congrArg Prod.fst hx
    simpa [textData] using this
   have hxl : xs.length = n := by simpa using Lib.mapM_length hm
   have hzl : zs.length = n := by
    have := congrArg List.length hxs
    simp at this
    omega
   apply List.ext_getElem?
   intro i
   by_cases hi : i < n
   ·obtain ⟨b, hb, hf⟩ := Lib.mapM_at hm i i (by simp [hi])
    obtain ⟨z, hc, rfl, _⟩ := DataW.trod_string he hf
    have h1 : cs[i]? = some (.string z) := by
     have := congrArg (·[0]?) hc
     simpa [List.getElem?_take, List.getElem?_drop] using this
    have h2 : (xs.map (·.1))[i]? = some (DataW.lit (.string z.data.toList) : DataW H) := by simp [hb]
    rw [hxs] at h2
    simp only [List.getElem?_map, Option.map_eq_some_iff, DataW.lit.injEq, Lit.string.injEq] at h2
    obtain ⟨z', hz', e⟩ := h2
    have ez : z = ⟨z'.toArray⟩ := by
     apply ByteArray.ext
     rw [e]
    simp [h1, hz', ez]
   ·rw [List.getElem?_eq_none (by omega), List.getElem?_eq_none (by simp; omega)]
  ·cases h
theorem texts_of_vars {P : Program} {W : World} {name : String} {zs : List (List UInt8)} {rest : List (String × DataW Unit)} {ps : List MemPlace} {g : Nat} {t e : TypeId} {n : Nat}
 (hg : P.globalNamed name = some g) (hty : (P.globals[g]?).map (·.type) = some t) (ht : P.underlying t = some (.array n e)) (he : P.underlying e = some .string) (hce : P.cellsOf e = 1) (hct : P.cellsOf t = n)
 (h : DataW.LaidVars P W ((name, textData zs) :: rest) ps) : (∃ u fr, W.heap[g]? = some (.cells (zs.map fun z => Value.string ⟨z.toArray⟩).toArray u fr)) ∧ ∃ q, DataW.LaidVars P W rest q := by
 obtain ⟨g', t', cs, fuel, p, q, hg', ht', hvar, hd, hr, _⟩ := h
 obtain rfl := Option.some.inj (hg.symm.trans hg')
 obtain rfl := Option.some.inj (hty.symm.trans ht')
 refine ⟨?_, q, hr⟩
 have hcs := cells_of_texts ht he hce hct hd
 have ecs : cs = (zs.map fun z => Value.string ⟨z.toArray⟩).toArray := by rw [← hcs]
 unfold World.var? at hvar
 rw [hg, Option.bind_some] at hvar
 split at hvar
 ·rename_i c u fr hh
  obtain rfl := Option.some.inj hvar
  exact ⟨u, fr, by rw [hh, ecs]⟩
 ·cases hvar
end Go.Av
namespace Go.Proofs.YtnnnhlkmdnacaaaGreatDoor.goparsePrograms
open Go.ChangeShapes Go.WideShapes Go.ChangeAt Go.RowKit Go.Av Go.Ab
open Go.ChangeMaps (open_string shut_string)
set_option linter.unusedVariables false
theorem own : ownKnob Tryz.prog.godebug = none := by kernel_rfl
theorem tab {W : World} (h : laidMetH Tryz.prog Rows.goparseProgramsRow.laid W) : Tabs W := by
 have h' : laidMet Tryz.prog Rows.goparseProgramsRow.laid W := h
 obtain ⟨ps, hv, _⟩ := h'
 obtain ⟨⟨u, fr, h1⟩, ps2, hv2⟩ := texts_of_vars (zs := signsL) (g := 0) (t := 152) (e := 9) (n := 29) (by kernel_rfl) (by kernel_rfl) Tryz.underlying152 Tryz.underlying9 (by kernel_rfl) (by kernel_rfl) hv
 obtain ⟨⟨u2, fr2, h2⟩, _⟩ := texts_of_vars (zs := keysL) (g := 2) (t := 164) (e := 9) (n := 22) (by kernel_rfl) (by kernel_rfl) Tryz.underlying164 Tryz.underlying9 (by kernel_rfl) (by kernel_rfl) hv2
 exact ⟨⟨u, fr, h1⟩, ⟨u2, fr2, h2⟩⟩
noncomputable def laidWorld (os : Os) : World := World.laidAll Tryz.prog os Rows.goparseProgramsRow.laid
theorem laid_met (os : Os) : laidMet Tryz.prog Rows.goparseProgramsRow.laid ((laidWorld os).forCall (fun _ _ => 0) ⟨#[], #[Value.slice none 0 0], []⟩).memory :=
 laidMet_laidAll _ (by kernel_rfl) (by kernel_rfl)
theorem reads (os : Os) {H : Type} (enc : TypeId × Value → H) : ∃ places, DataW.whole enc Tryz.prog ((laidWorld os).forCall (fun _ _ => 0) ⟨#[], #[Value.slice none 0 0], []⟩).memory Tryz.f3.params.toList Rows.goparseProgramsSpec.vars false #[Value.slice none 0 0].toList 8 = some ([.nil], [], places) :=
 ⟨[], by kernel_rfl⟩
set_option maxRecDepth 100000 in
theorem lifted (os : Os) (started : os.Started) (H : Type) (enc : TypeId × Value → H) (F : Stop.Interp) :
 ReturnsInHanded {} Tryz.checked os 3 .any ((OpenSpec.ofChange Rows.goparseProgramsSpec).preRow enc Tryz.prog Tryz.f3 Rows.goparseProgramsRow.domain false Rows.goparseProgramsRow.laid) (((OpenSpec.ofChange Rows.goparseProgramsSpec).at F).post enc Tryz.prog Tryz.f3 false true false false) := by
 obtain ⟨places, hx⟩ := reads os enc
 refine returnsInHanded_of_row (C := Tryz.checked) (s := OpenSpec.ofChange Rows.goparseProgramsSpec) own started (by kernel_rfl) Tryz.func3
  (witness_row_at (enc := enc) (C := Tryz.checked) false (laidWorld os) #[Value.slice none 0 0] (World.laidAll_os _ _ _) (by kernel_rfl) (by kernel_rfl) (by kernel_rfl)
   (OpenSpec.preRow_of_cond 8 hx (by kernel_rfl) (fun k hk => by cases hk) (by kernel_rfl) (laid_met os))) ?_
 intro W base args ds gs before hval hW _ _ _ hL _ _
 have hW' := hW
 obtain ⟨p, q, hA0, hV, rfl, hfz, hnd⟩ := hW
 have hA : DataW.TrodAll enc Tryz.prog W 0 (fun _ => true) true Tryz.f3.params.toList args.toList ds p := hA0
 rw [Tryz.params3] at hA hval
 obtain ⟨v0, vs0, d0, ds0, p0, q0, hargs, rfl, rfl, h0, r0⟩ := trodAll_cons hA
 obtain ⟨rfl, rfl, rfl⟩ := trodAll_nil r0
 obtain rfl : args = #[v0] := by cases args; simp_all
 obtain ⟨rfl, rfl⟩ := trodVars_none hV
 have hlt : ∀ x ∈ (p0 ++ []), x.block < W.heap.size := fun x hx => by simpa using hW'.lt x (by simpa using hx)
 obtain ⟨a0, l0, k0, rfl⟩ := okWide_slice Tryz.underlying22 (hval 0 22 v0 rfl rfl)
 obtain ⟨u0, g0⟩ := h0
 obtain ⟨y0, o0⟩ := open_D (W := W) (enc := enc) byL byL_ok u0 22 [.slice a0 l0 k0] _ (by kernel_rfl) g0
 have h0 := (⟨u0, g0⟩ : DataW.Trod enc Tryz.prog W 0 (fun _ => true) true 22 (.slice a0 l0 k0) d0 p0)
 obtain ⟨x0, rfl⟩ := wf_bytes o0.1
 have q0 := first_one (I := TabI) o0
 clear hA0 hval
 simp only [List.append_nil] at hW'
 have hmx : maxLen = 9223372036854775807 := rfl
 have hT := tab hL
 refine ((law_ab x0).law (W := W) (xs := #[.slice a0 l0 k0]) (show 2 + 0 + 1 ≤ W.heap.size by have := hT.size; omega) (fun w hb => hT.below hb) rfl (fun j hj => ?_)).mono fun e W' ⟨he, bel⟩ => ?_
 ·match j, hj with
  | 0, _ => exact q0
 subst he
 exact ⟨_, rfl, _, _, _, [], _, [], hW', trodAll_mk1 (shut_bool Tryz.underlying4 _), (trodAll_cons_mk (kept_arg (by kernel_rfl) (of_decide_eq_true (by kernel_rfl)) h0 bel (fun x hx => hlt x (by simp [hx]))) trodAll_mk0), rfl, bel.frame _, fun h => by cases h⟩
theorem said : Rows.GoparseProgramsSaid :=
 OpenClaim.holds_of_cond 3 Tryz.f3 rfl rfl rfl rfl rfl rfl rfl ⟨rfl, rfl, rfl, rfl, rfl⟩ rfl rfl rfl rfl rfl (by kernel_rfl) Tryz.func3 (by kernel_rfl)
  (of_decide_eq_true (by kernel_rfl)) (by unfold Func.isWrapper; first | (rw [if_pos (by decide +kernel)]; kernel_rfl) | (rw [if_neg (by decide +kernel)]; exact ⟨rfl, rfl⟩))
  (fun os started H enc _ F => by rw [OpenClaim.pre_eq_preRow]; exact lifted os started H enc F)
theorem plain (f : FuncId) (fn : Func) (hf : Tryz.pinned.checked.prog.funcNamed "avocet/avocetlaw25.GoparsePrograms" = some f) (hfn : Tryz.pinned.checked.prog.funcs[f]? = some fn) :
 false = Tryz.pinned.checked.prog.looks [] ∧ ∀ (j : Nat) t, fn.params[j]? = some t → Tryz.pinned.checked.prog.wantsStandIn t = false := by
 obtain rfl : f = 3 := Option.some.inj ((show Tryz.prog.funcNamed "avocet/avocetlaw25.GoparsePrograms" = some 3 by kernel_rfl).symm.trans hf) |>.symm
 obtain rfl : fn = Tryz.f3 := (Option.some.inj (Tryz.func3.symm.trans hfn)).symm
 refine ⟨by kernel_rfl, fun j t ht => ?_⟩
 rw [Tryz.params3] at ht
 have hm := Array.mem_of_getElem? ht
 have : t = 22 := by simpa using hm
 subst this
 exact (show Tryz.prog.wantsStandIn 22 = false by kernel_rfl)
theorem proved : Rows.GoparseProgramsCardSaid :=
 Claim7.holds_tied_plain_at .later [] _ _ _ _ said (fun _ h => by cases h) (by kernel_rfl) (fun _ h => by cases h) goparsePrograms_row_tie rfl ⟨rfl, rfl⟩ (by kernel_rfl) rfl plain (by kernel_rfl)
#print axioms proved
end Go.Proofs.YtnnnhlkmdnacaaaGreatDoor.goparsePrograms
