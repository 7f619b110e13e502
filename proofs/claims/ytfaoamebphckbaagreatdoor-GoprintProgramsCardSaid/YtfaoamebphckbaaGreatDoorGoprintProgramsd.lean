/- goprintPrograms Part 4 of 5 of the proof. -/
import Derived.Test.YtfaoamebphckbaaGreatDoorGoprintProgramsc
namespace Go.Proofs.YtfaoamebphckbaaGreatDoor
open Go.RowKit Go.Av Go.Ab
set_option linter.unusedSimpArgs false
set_option linter.unusedVariables false
set_option maxRecDepth 100000
set_option maxHeartbeats 2000000 in
theorem if2_ab {k : Nat} {x : ExT} {b e : List StT} (hx : RE x) (hs : ∀ y ∈ b, RT (k + 1) y) (he : ∀ y ∈ e, RT (k + 1) y) : RT k (.mk 3 [] noT [] [x] b e []) := by
 intro hb
 refine RS.of (by simp [stV, wkL, wk]) ?_
 have hty : stT k (.mk 3 [] noT [] [x] b e []) = tabT k ++ ([105, 102] ++ [32]) ++ exT x ++ [32, 123, 10] ++ stTs (k + 1) b ++ (if e.isEmpty = true then [] else tabT k ++ [125, 32, 101, 108, 115, 101, 32, 123, 10] ++ stTs (k + 1) e) ++ (tabT k ++ [125, 10]) := by simp [stT, hedT, kidE]
 rw [hty] at hb ⊢
 unfold mostW at hb
 have hb0 := hb
 simp only [lnw] at hb0
 have hy := stmts2_ab (k + 1) b hs (by unfold mostW; omega)
 unfold RE mostW at hx
 have hx := hx (by omega)
 have hz := stmts2_ab (k + 1) e he
 clear hs hty he
 rw [← tab_up] at hy hz
 generalize stTs (k + 1) b = v at hy hb hb0 ⊢
 generalize stTs (k + 1) e = t at hz hb hb0 ⊢
 generalize tabT k = w at hb hb0 hy hz ⊢
 unfold RX exV at hx
 generalize exT x = u at hx hb hb0 ⊢
 have k0 : w.length ≤ 9223372036854775806 ∧ w.length + 1 ≤ 9223372036854775807 := by omega
 have k1 : 1 + u.length ≤ 9223372036854775807 ∧ u.length ≤ 9223372036854775803 ∧ u.length + 1 + 3 ≤ 9223372036854775807 := by omega
 have kk : w.length ≤ 9223372036854775805 ∧ w.length + 2 ≤ 9223372036854775807 ∧ w.length ≤ 9223372036854775804 ∧ w.length + 2 + 1 ≤ 9223372036854775807 ∧ w.length + 3 + u.length ≤ 9223372036854775807 ∧ w.length + (u.length + 1 + 1 + 1) ≤ 9223372036854775804 ∧ w.length + (u.length + 1 + 1 + 1) + 3 ≤ 9223372036854775807 ∧ w.length + (u.length + 3) ≤ 9223372036854775804 ∧ w.length + (u.length + 3) + 3 ≤ 9223372036854775807 ∧ w.length + (u.length + 6) + v.length ≤ 9223372036854775807 ∧ w.length + (u.length + (v.length + 1 + 1 + 1) + 1 + 1 + 1) + w.length ≤ 9223372036854775807 ∧ w.length + (u.length + (v.length + 1 + 1 + 1) + 3) + w.length ≤ 9223372036854775807 ∧ w.length + (u.length + (v.length + 3) + 1 + 1 + 1) + w.length ≤ 9223372036854775807 ∧ w.length + (u.length + (v.length + 3) + 3) + w.length ≤ 9223372036854775807 ∧ w.length + (u.length + (v.length + w.length + 1 + 1 + 1) + 1 + 1 + 1) ≤ 9223372036854775805 ∧ w.length + (u.length + (v.length + w.length + 1 + 1 + 1) + 1 + 1 + 1) + 2 ≤ 9223372036854775807 ∧ w.length + (u.length + (v.length + w.length + 1 + 1 + 1) + 3) ≤ 9223372036854775805 ∧ w.length + (u.length + (v.length + w.length + 1 + 1 + 1) + 3) + 2 ≤ 9223372036854775807 ∧ w.length + (u.length + (v.length + w.length + 3) + 1 + 1 + 1) ≤ 9223372036854775805 ∧ w.length + (u.length + (v.length + w.length + 3) + 1 + 1 + 1) + 2 ≤ 9223372036854775807 ∧ w.length + (u.length + (v.length + w.length + 3) + 3) ≤ 9223372036854775805 ∧ w.length + (u.length + (v.length + w.length + 3) + 3) + 2 ≤ 9223372036854775807 := by omega
 have k3 : w.length ≤ 9223372036854775805 ∧ w.length + 2 ≤ 9223372036854775807 ∧ w.length + 2 + ((u.length + 4)) ≤ 9223372036854775807 := by omega
 have k4 : w.length ≤ 9223372036854775805 ∧ w.length + 2 ≤ 9223372036854775807 ∧ w.length + 2 + ((u.length + 3 + 1)) ≤ 9223372036854775807 := by omega
 change AFn _ _ _ [.agg [.d (.int .i64 3), .d (.sl []), .d (.int .i64 0), .d (.str []), .d (.sl []), .d (.sl []), .d (.sl [exD x]), .d (.sl (b.map stD)), .d (.sl (e.map stD)), .d (.sl [])], _] _ _
 cases he : decide ((0 : Int) < (e.length : Int))
 ·have e0 : e = [] := List.eq_nil_of_length_eq_zero (by have := of_decide_eq_false he; omega)
  rw [if_pos (by rw [e0]; rfl)]
  rw [show w ++ ([105, 102] ++ [32]) ++ u ++ [32, 123, 10] ++ v ++ [] ++ (w ++ [125, 10]) = w ++ [105, 102] ++ ([32] ++ u ++ [32, 123, 10]) ++ v ++ w ++ [125, 10] by simp]
  refine b56.go 60 rfl fun hsm => ?_
  simp only [smw] at hsm
  simp only [W, seval, c56, k0, exD_eq]
  refine callS_fn (hx _) ?_
  rintro _ _ ⟨rfl, rfl⟩
  refine ARun.go 60 ?_
  simp only [W, seval, c56, k1, k3, k4, kk]
  refine callS_fn (hy _) ?_
  rintro _ _ ⟨rfl, rfl⟩
  refine ARun.go 60 ?_
  simp only [W, seval, c56, kk, he]
  refine ARun.ret Tryz.func56 rfl (Left.empty ?_)
  exact ⟨rfl, rfl⟩
 ·have e0 : ¬ e.isEmpty = true := fun h => by
   rw [List.isEmpty_iff.1 h] at he
   exact absurd (of_decide_eq_true he) (by simp)
  rw [if_neg e0] at hb ⊢
  simp only [lnw] at hb
  have hz := hz (by unfold mostW; omega)
  have k8 : w.length ≤ 9223372036854775805 ∧ w.length + 2 ≤ 9223372036854775807 ∧ w.length ≤ 9223372036854775804 ∧ w.length + 2 + 1 ≤ 9223372036854775807 ∧ w.length + 3 + u.length ≤ 9223372036854775807 ∧ w.length + (u.length + 1 + 1 + 1) ≤ 9223372036854775804 ∧ w.length + (u.length + 1 + 1 + 1) + 3 ≤ 9223372036854775807 ∧ w.length + (u.length + 3) ≤ 9223372036854775804 ∧ w.length + (u.length + 3) + 3 ≤ 9223372036854775807 ∧ w.length + (u.length + 6) + v.length ≤ 9223372036854775807 ∧ w.length + (u.length + (v.length + 1 + 1 + 1) + 1 + 1 + 1) + w.length ≤ 9223372036854775807 ∧ w.length + (u.length + (v.length + 1 + 1 + 1) + 3) + w.length ≤ 9223372036854775807 ∧ w.length + (u.length + (v.length + 3) + 1 + 1 + 1) + w.length ≤ 9223372036854775807 ∧ w.length + (u.length + (v.length + 3) + 3) + w.length ≤ 9223372036854775807 ∧ w.length + (u.length + (v.length + w.length + 1 + 1 + 1) + 1 + 1 + 1) ≤ 9223372036854775798 ∧ w.length + (u.length + (v.length + w.length + 1 + 1 + 1) + 1 + 1 + 1) + 9 ≤ 9223372036854775807 ∧ w.length + (u.length + (v.length + w.length + 1 + 1 + 1) + 3) ≤ 9223372036854775798 ∧ w.length + (u.length + (v.length + w.length + 1 + 1 + 1) + 3) + 9 ≤ 9223372036854775807 ∧ w.length + (u.length + (v.length + w.length + 3) + 1 + 1 + 1) ≤ 9223372036854775798 ∧ w.length + (u.length + (v.length + w.length + 3) + 1 + 1 + 1) + 9 ≤ 9223372036854775807 ∧ w.length + (u.length + (v.length + w.length + 3) + 3) ≤ 9223372036854775798 ∧ w.length + (u.length + (v.length + w.length + 3) + 3) + 9 ≤ 9223372036854775807 ∧ w.length + (u.length + (v.length + (w.length + 9) + 1 + 1 + 1) + 1 + 1 + 1) + t.length ≤ 9223372036854775807 ∧ w.length + (u.length + (v.length + (w.length + 9) + 1 + 1 + 1) + 3) + t.length ≤ 9223372036854775807 ∧ w.length + (u.length + (v.length + (w.length + 9) + 3) + 1 + 1 + 1) + t.length ≤ 9223372036854775807 ∧ w.length + (u.length + (v.length + (w.length + 9) + 3) + 3) + t.length ≤ 9223372036854775807 ∧ w.length + (u.length + (v.length + (w.length + (t.length + 9)) + 1 + 1 + 1) + 1 + 1 + 1) + w.length ≤ 9223372036854775807 ∧ w.length + (u.length + (v.length + (w.length + (t.length + 9)) + 1 + 1 + 1) + 3) + w.length ≤ 9223372036854775807 ∧ w.length + (u.length + (v.length + (w.length + (t.length + 9)) + 3) + 1 + 1 + 1) + w.length ≤ 9223372036854775807 ∧ w.length + (u.length + (v.length + (w.length + (t.length + 9)) + 3) + 3) + w.length ≤ 9223372036854775807 ∧ w.length + (u.length + (v.length + (w.length + (t.length + w.length + 9)) + 1 + 1 + 1) + 1 + 1 + 1) ≤ 9223372036854775805 ∧ w.length + (u.length + (v.length + (w.length + (t.length + w.length + 9)) + 1 + 1 + 1) + 1 + 1 + 1) + 2 ≤ 9223372036854775807 ∧ w.length + (u.length + (v.length + (w.length + (t.length + w.length + 9)) + 1 + 1 + 1) + 3) ≤ 9223372036854775805 ∧ w.length + (u.length + (v.length + (w.length + (t.length + w.length + 9)) + 1 + 1 + 1) + 3) + 2 ≤ 9223372036854775807 ∧ w.length + (u.length + (v.length + (w.length + (t.length + w.length + 9)) + 3) + 1 + 1 + 1) ≤ 9223372036854775805 ∧ w.length + (u.length + (v.length + (w.length + (t.length + w.length + 9)) + 3) + 1 + 1 + 1) + 2 ≤ 9223372036854775807 ∧ w.length + (u.length + (v.length + (w.length + (t.length + w.length + 9)) + 3) + 3) ≤ 9223372036854775805 ∧ w.length + (u.length + (v.length + (w.length + (t.length + w.length + 9)) + 3) + 3) + 2 ≤ 9223372036854775807 := by omega
  rw [show w ++ ([105, 102] ++ [32]) ++ u ++ [32, 123, 10] ++ v ++ (w ++ [125, 32, 101, 108, 115, 101, 32, 123, 10] ++ t) ++ (w ++ [125, 10]) = w ++ [105, 102] ++ ([32] ++ u ++ [32, 123, 10]) ++ v ++ w ++ [125, 32, 101, 108, 115, 101, 32, 123, 10] ++ t ++ w ++ [125, 10] by simp]
  refine b56.go 60 rfl fun hsm => ?_
  simp only [smw] at hsm
  simp only [W, seval, c56, k0, exD_eq]
  refine callS_fn (hx _) ?_
  rintro _ _ ⟨rfl, rfl⟩
  refine ARun.go 60 ?_
  simp only [W, seval, c56, k1, k3, k4, kk]
  refine callS_fn (hy _) ?_
  rintro _ _ ⟨rfl, rfl⟩
  refine ARun.go 60 ?_
  simp only [W, seval, c56, kk, k8, he]
  refine callS_fn (hz _) ?_
  rintro _ _ ⟨rfl, rfl⟩
  refine ARun.go 60 ?_
  simp only [W, seval, c56, k8]
  refine ARun.ret Tryz.func56 rfl (Left.empty ?_)
  exact ⟨rfl, rfl⟩
theorem cas_drop (n : Nat) (l : List CaT) (i : Nat) (h : i < l.length) : caTs n (l.drop i) = tabT n ++ ([99, 97, 115, 101, 32] ++ digF 24 l[i].int.toNat ++ [58, 10]) ++ stTs (n + 1) l[i].body ++ caTs n (l.drop (i + 1)) := by
 rw [List.drop_eq_getElem_cons h]
 obtain ⟨q, b⟩ := l[i]
 rw [caTs]
 rfl
set_option maxHeartbeats 4000000 in
theorem swi2_ab {k : Nat} {x : ExT} {e : List StT} {cs : List CaT} (hx : RE x) (he : ∀ y ∈ e, RT (k + 1) y) (hn : ∀ c ∈ cs, 0 ≤ c.int ∧ c.int ≤ 18446744073709551615) (hs : ∀ c ∈ cs, ∀ y ∈ c.body, RT (k + 1) y) : RT k (.mk 5 [] noT [] [x] [] e cs) := by
 intro hb
 refine RS.of (by simp [stV, wkL, wk]) ?_
 have hty : stT k (.mk 5 [] noT [] [x] [] e cs) = tabT k ++ ([115, 119, 105, 116, 99, 104] ++ [32]) ++ exT x ++ [32, 123, 10] ++ caTs k cs ++ (if e.isEmpty = true then [] else tabT k ++ [100, 101, 102, 97, 117, 108, 116, 58, 10] ++ stTs (k + 1) e) ++ (tabT k ++ [125, 10]) := by simp [stT, hedT, kidE]
 rw [hty] at hb ⊢
 unfold mostW at hb
 have hb0 := hb
 simp only [lnw] at hb0
 unfold RE mostW at hx
 have hx := hx (by omega)
 have hz := stmts2_ab (k + 1) e he
 have hc : ∀ c ∈ cs, (stTs (k + 1) c.body).length ≤ mostW → RS 20 [.d (.sl (c.body.map stD)), .d (.str (tabT (k + 1)))] (stTs (k + 1) c.body) := fun c h => stmts2_ab (k + 1) c.body (hs c h)
 clear hs hty he
 rw [← tab_up] at hz hc
 obtain ⟨C, hC⟩ : ∃ C, caTs k cs = C := ⟨_, rfl⟩
 rw [hC] at hb hb0 ⊢
 generalize stTs (k + 1) e = t at hz hb hb0 ⊢
 obtain ⟨w, hw⟩ : ∃ w, tabT k = w := ⟨_, rfl⟩
 rw [hw] at hb hb0 hz hc ⊢
 unfold RX exV at hx
 generalize exT x = u at hx hb hb0 ⊢
 have k0 : w.length ≤ 9223372036854775806 ∧ w.length + 1 ≤ 9223372036854775807 := by omega
 have k1 : 1 + u.length ≤ 9223372036854775807 ∧ u.length ≤ 9223372036854775803 ∧ u.length + 1 + 3 ≤ 9223372036854775807 := by omega
 have k3 : w.length ≤ 9223372036854775801 ∧ w.length + 6 ≤ 9223372036854775807 ∧ w.length + 6 + ((u.length + 4)) ≤ 9223372036854775807 := by omega
 have k4 : w.length ≤ 9223372036854775801 ∧ w.length + 6 ≤ 9223372036854775807 ∧ w.length + 6 + ((u.length + 3 + 1)) ≤ 9223372036854775807 := by omega
 obtain ⟨H, hH⟩ : ∃ H, w ++ 115 :: 119 :: 105 :: 116 :: 99 :: 104 :: 32 :: (u ++ [32, 123, 10]) = H := ⟨_, rfl⟩
 have hHl : H.length = w.length + 6 + (1 + u.length + 3) := by rw [← hH]; simp; omega
 rw [show w ++ ([115, 119, 105, 116, 99, 104] ++ [32]) ++ u ++ [32, 123, 10] ++ C = H ++ C by rw [← hH]; simp]
 obtain ⟨Z, hZ⟩ : ∃ Z, H ++ C ++ (if e.isEmpty = true then [] else w ++ [100, 101, 102, 97, 117, 108, 116, 58, 10] ++ t) ++ (w ++ [125, 10]) = Z := ⟨_, rfl⟩
 rw [hZ]
 change AFn _ _ _ [.agg [.d (.int .i64 5), .d (.sl []), .d (.int .i64 0), .d (.str []), .d (.sl []), .d (.sl []), .d (.sl [exD x]), .d (.sl []), .d (.sl (e.map stD)), .d (.sl (cs.map caD))], _] _ _
 refine b56.go 60 rfl fun hsm => ?_
 simp only [smw] at hsm
 simp only [W, seval, c56, k0, exD_eq]
 refine callS_fn (hx _) ?_
 rintro _ _ ⟨rfl, rfl⟩
 refine ARun.go 60 ?_
 simp only [W, seval, c56, k1, k3, k4]
 refine ARun.loopW (fun p : Nat × List UInt8 => (envS 153 [(1, .d (.str w)), (2, .ptr 0 0), (5, .d (.str (w ++ [9]))), (8, .d (.str p.2)), (9, .d (.int .i64 (p.1 : Int)))], ⟨[[.d (.int .i64 5), .d (.sl []), .d (.int .i64 0), .d (.str []), .d (.sl []), .d (.sl []), .d (.sl [exD x]), .d (.sl []), .d (.sl (e.map stD)), .d (.sl (cs.map caD))]], []⟩)) (fun p => p.1 ≤ cs.length ∧ p.2 ++ caTs k (cs.drop p.1) = H ++ C) (fun p => cs.length - p.1) (0, H) ⟨by simp, by dsimp only; rw [← hC]; rfl⟩ ?_ (by simp only [exD_eq]) ?_
 ·skip
  refine Agree.env _ ?_
  simp only [agw, seval, hH]
 rintro ⟨j, s⟩ ⟨h1, h2⟩ ih
 dsimp only at h1 h2 ih ⊢
 by_cases hlt : j < cs.length
 case neg =>
  have e1 : decide ((j : Int) < (cs.length : Int)) = false := decide_eq_false (by omega)
  rw [List.drop_eq_nil_of_le (by omega), caTs, List.append_nil] at h2
  have hsl := congrArg List.length h2
  simp only [lnw] at hsl
  have k6 : s.length + w.length ≤ 9223372036854775807 ∧ s.length + w.length ≤ 9223372036854775805 ∧ s.length + w.length + 2 ≤ 9223372036854775807 := by omega
  rw [← h2] at hZ
  cases he : decide ((0 : Int) < (e.length : Int))
  ·have e0 : e = [] := List.eq_nil_of_length_eq_zero (by have := of_decide_eq_false he; omega)
   rw [if_pos (by rw [e0]; rfl), List.append_nil] at hZ
   rw [← hZ]
   refine ARun.go 60 ?_
   simp only [W, seval, c56, e1, he, k6]
   refine ARun.ret Tryz.func56 rfl (Left.empty ?_)
   exact ⟨rfl, rfl⟩
  ·have e0 : ¬ e.isEmpty = true := fun h => by
    rw [List.isEmpty_iff.1 h] at he
    exact absurd (of_decide_eq_true he) (by simp)
   rw [if_neg e0] at hb hZ
   rw [← hZ]
   simp only [lnw] at hb
   have hz := hz (by unfold mostW; omega)
   have k8 : s.length + w.length ≤ 9223372036854775807 ∧ s.length + w.length ≤ 9223372036854775798 ∧ s.length + w.length + 9 ≤ 9223372036854775807 ∧ s.length + (w.length + 9) + t.length ≤ 9223372036854775807 ∧ s.length + (w.length + (t.length + 9)) + w.length ≤ 9223372036854775807 ∧ s.length + (w.length + (t.length + w.length + 9)) ≤ 9223372036854775805 ∧ s.length + (w.length + (t.length + w.length + 9)) + 2 ≤ 9223372036854775807 := by omega
   refine ARun.go 60 ?_
   simp only [W, seval, c56, e1, he, k6, k8]
   refine callS_fn (hz _) ?_
   rintro _ _ ⟨rfl, rfl⟩
   refine ARun.go 60 ?_
   simp only [W, seval, c56, k8]
   refine ARun.ret Tryz.func56 rfl (Left.empty ?_)
   exact ⟨rfl, rfl⟩
 have e1 : decide ((j : Int) < (cs.length : Int)) = true := decide_eq_true (by omega)
 have hwj := wrap_in ((j : Int) + 1) (by omega)
 have hg : (cs.map caD)[j]? = some (caD cs[j]) := by simp [hlt]
 have hd := digits_ab cs[j].int (hn _ (List.getElem_mem hlt)).1 (hn _ (List.getElem_mem hlt)).2
 have hcj := hc cs[j] (List.getElem_mem hlt)
 rw [cas_drop k cs j hlt, hw] at h2
 clear hc hn
 generalize cs[j] = c at hg hd hcj h2
 rw [caD_eq] at hg
 have h2l := congrArg List.length h2
 simp only [lnw] at h2l
 have hcj := hcj (by unfold mostW; omega)
 generalize stTs (k + 1) c.body = v at hcj h2 h2l
 generalize digF 24 c.int.toNat = g at hd h2 h2l
 have kk : s.length + w.length ≤ 9223372036854775807 ∧ s.length + w.length ≤ 9223372036854775802 ∧ s.length + w.length + 5 ≤ 9223372036854775807 ∧ s.length + (w.length + 5) + g.length ≤ 9223372036854775807 ∧ s.length + (w.length + (g.length + 5)) ≤ 9223372036854775805 ∧ s.length + (w.length + (g.length + 5)) + 2 ≤ 9223372036854775807 ∧ s.length + (w.length + (g.length + 7)) + v.length ≤ 9223372036854775807 := by omega
 refine ARun.go 20 ?_
 simp only [W, seval, c56, e1]
 refine ARun.draw (by kernel_rfl) (by kernel_rfl) (lexQ_ok 60 _ _ ?_)
 simp only [W, seval, c56, kk, hg, hlt]
 refine ⟨_, hd _, ?_⟩
 simp only [W, seval, c56, kk, hg, hlt]
 refine ⟨_, hcj _, ?_⟩
 simp only [W, seval, c56, kk]
 refine ARun.go 40 ?_
 simp only [W, seval, c56, hwj]
 refine ih (j + 1, s ++ (w ++ 99 :: 97 :: 115 :: 101 :: 32 :: (g ++ 58 :: 10 :: v))) ⟨by dsimp only; omega, by simpa using h2⟩ (by dsimp only; omega) _ _ ?_ rfl
 refine Agree.env _ ?_
 simp only [agw, seval]
theorem stmt2_ab {d : Int} {x : StT} (h : OkS d x) : ∀ k, RT k x := by
 induction h with
 | var d n t hd hn ht => exact fun k => var2_ab ht
 | set d ls es hd _ _ _ hl he => exact fun k => set2_ab (fun x hx => expr2_ab (hl x hx)) fun x hx => expr2_ab (he x hx)
 | iff d x b e hd hx _ _ _ ihb ihe => exact fun k => if2_ab (expr2_ab hx) (fun y hy => ihb y hy _) fun y hy => ihe y hy _
 | fro d x b hd hx _ _ ihb => exact fun k => for2_ab (expr2_ab hx) fun y hy => ihb y hy _
 | swi d x e cs hd hx _ _ hn _ ihe ihc => exact fun k => swi2_ab (expr2_ab hx) (fun y hy => ihe y hy _) hn fun c hc y hy => ihc c hc y hy _
 | ret d es hd _ he => exact fun k => ret2_ab fun x hx => expr2_ab (he x hx)
set_option linter.defProp false
def c44 := by
 have c := KK_of Tryz.f44 (by conv => lhs; cbv)
 dsimp only [KK, KxP, doO, opO, List.map_cons, List.map_nil, List.toList_toArray] at c
 exact c
theorem b44 : FnIs Tryz.prog 44 Tryz.f44 133 := ⟨Tryz.func44, by kernel_rfl⟩
set_option maxHeartbeats 4000000 in
theorem expr_pw {d : Int} {x : ExT} (h : OkE d x) : PWE x := by
 induction h with
 | nam d g hd hid =>
  intro i t s k B T hin htm hk hb
  obtain ⟨N, hn⟩ : ∃ N, B.length = N := ⟨_, rfl⟩
  have hty : exT (.mk 1 g 0 noT [] []) = g := rfl
  rw [hty] at hb ⊢
  obtain ⟨a, ha⟩ : ∃ a, s ++ g = a := ⟨_, rfl⟩
  dsimp only at hb ⊢
  rw [ha]
  change AFn _ _ _ [.ptr i 0, .agg [.d (.int .i64 1), .d (.str g), .d (.int .u64 0), .d (.int .i64 0), .d (.str []), .d (.sl []), .d (.sl []), .d (.sl [])]] _ _
  refine b44.go 90 rfl fun hsm => ?_
  simp only [smw] at hsm
  simp only [W, seval, c44, hin, htm, hn, mapD_nil, mapD_cons]
  refine (put1 g).callJ hin htm hk ?_ fun s1 h_s1 => ?_
  ·try simp only [lnw]
   omega
  have hl_s1 := congrArg List.length h_s1
  simp only [lnw] at hl_s1
  refine ARun.go 20 ?_
  simp only [W, seval, c44]
  refine ARun.fin Tryz.func44 rfl (PW.retJ hin htm ?_)
  subst h_s1 ha
  exact ⟨rfl, rfl⟩
 | num d q hd h0 h1 =>
  intro i t s k B T hin htm hk hb
  obtain ⟨N, hn⟩ : ∃ N, B.length = N := ⟨_, rfl⟩
  have hty : exT (.mk 2 [] q noT [] []) = digF 24 q.toNat := rfl
  rw [hty] at hb ⊢
  obtain ⟨a, ha⟩ : ∃ a, s ++ digF 24 q.toNat = a := ⟨_, rfl⟩
  dsimp only at hb ⊢
  rw [ha]
  change AFn _ _ _ [.ptr i 0, .agg [.d (.int .i64 2), .d (.str []), .d (.int .u64 q), .d (.int .i64 0), .d (.str []), .d (.sl []), .d (.sl []), .d (.sl [])]] _ _
  refine b44.go 90 rfl fun hsm => ?_
  simp only [smw] at hsm
  simp only [W, seval, c44, hin, htm, hn, mapD_nil, mapD_cons]
  refine callS_fn (funt_ab q h0 h1 _ _) ?_
  rintro _ _ ⟨rfl, rfl⟩
  refine ARun.go 60 ?_
  simp only [W, seval, c44, hin, htm, mapD_nil, mapD_cons]
  refine (put1 (digF 24 q.toNat)).callJ hin htm hk ?_ fun s1 h_s1 => ?_
  ·try simp only [lnw]
   omega
  have hl_s1 := congrArg List.length h_s1
  simp only [lnw] at hl_s1
  refine ARun.go 20 ?_
  simp only [W, seval, c44]
  refine ARun.fin Tryz.func44 rfl (PW.retJ hin htm ?_)
  subst h_s1 ha
  exact ⟨rfl, rfl⟩
 | tru d q hd h0 h1 =>
  intro i t s k B T hin htm hk hb
  obtain ⟨N, hn⟩ : ∃ N, B.length = N := ⟨_, rfl⟩
  obtain ⟨u, hu⟩ : ∃ u : List UInt8, (if q = 1 then [116, 114, 117, 101] else [102, 97, 108, 115, 101]) = u := ⟨_, rfl⟩
  have hty : exT (.mk 3 [] q noT [] []) = u := hu
  have hud : (if decide (q = 1) = true then [116, 114, 117, 101] else [102, 97, 108, 115, 101]) = u := by
   rw [← hu]
   by_cases e : q = 1 <;> simp [e]
  rw [hty] at hb ⊢
  obtain ⟨a, ha⟩ : ∃ a, s ++ u = a := ⟨_, rfl⟩
  dsimp only at hb ⊢
  rw [ha]
  change AFn _ _ _ [.ptr i 0, .agg [.d (.int .i64 3), .d (.str []), .d (.int .u64 q), .d (.int .i64 0), .d (.str []), .d (.sl []), .d (.sl []), .d (.sl [])]] _ _
  refine b44.go 90 rfl fun hsm => ?_
  simp only [smw] at hsm
  simp only [W, seval, c44, hin, htm, hn, mapD_nil, mapD_cons]
  refine callS_fn (fbool_ab (decide (q = 1)) _ _) ?_
  rintro _ _ ⟨rfl, rfl⟩
  rw [hud]
  refine ARun.go 60 ?_
  simp only [W, seval, c44, hin, htm, mapD_nil, mapD_cons]
  refine (put1 u).callJ hin htm hk ?_ fun s1 h_s1 => ?_
  ·try simp only [lnw]
   omega
  have hl_s1 := congrArg List.length h_s1
  simp only [lnw] at hl_s1
  refine ARun.go 20 ?_
  simp only [W, seval, c44]
  refine ARun.fin Tryz.func44 rfl (PW.retJ hin htm ?_)
  subst h_s1 ha
  exact ⟨rfl, rfl⟩
 | sgn d q y hd hq hy ih =>
  intro i t s k B T hin htm hk hb
  obtain ⟨N, hn⟩ : ∃ N, B.length = N := ⟨_, rfl⟩
  rcases hq with rfl | rfl
  ·have hty : exT (.mk 4 [] 0 noT [] [y]) = [33] ++ parT (tigB y) (exT y) := rfl
   rw [hty] at hb ⊢
   obtain ⟨a, ha⟩ : ∃ a, s ++ ([33] ++ parT (tigB y) (exT y)) = a := ⟨_, rfl⟩
   dsimp only at hb ⊢
   rw [ha]
   simp only [lnw] at hb
   change AFn _ _ _ [.ptr i 0, .agg [.d (.int .i64 4), .d (.str []), .d (.int .u64 0), .d (.int .i64 0), .d (.str []), .d (.sl []), .d (.sl []), .d (.sl [exD y])]] _ _
   refine b44.go 90 rfl fun hsm => ?_
   simp only [smw] at hsm
   simp only [W, seval, c44, hin, htm, hn, mapD_nil, mapD_cons]
   refine (put1 [33]).callJ hin htm hk ?_ fun s1 h_s1 => ?_
   ·try simp only [lnw]
    omega
   have hl_s1 := congrArg List.length h_s1
   simp only [lnw] at hl_s1
   refine ARun.go 60 ?_
   simp only [W, seval, c44, hin, htm, hn, exD_eq]
   refine (tight_pw ih).callJ hin htm hk ?_ fun s2 h_s2 => ?_
   ·try simp only [lnw]
    omega
   have hl_s2 := congrArg List.length h_s2
   simp only [lnw] at hl_s2
   refine ARun.go 20 ?_
   simp only [W, seval, c44]
   refine ARun.fin Tryz.func44 rfl (PW.retJ hin htm ?_)
   subst h_s1 h_s2 ha
   exact ⟨rfl, by simp⟩
  ·have hty : exT (.mk 5 [] 0 noT [] [y]) = [45] ++ parT (tigB y) (exT y) := rfl
   rw [hty] at hb ⊢
   obtain ⟨a, ha⟩ : ∃ a, s ++ ([45] ++ parT (tigB y) (exT y)) = a := ⟨_, rfl⟩
   dsimp only at hb ⊢
   rw [ha]
   simp only [lnw] at hb
   change AFn _ _ _ [.ptr i 0, .agg [.d (.int .i64 5), .d (.str []), .d (.int .u64 0), .d (.int .i64 0), .d (.str []), .d (.sl []), .d (.sl []), .d (.sl [exD y])]] _ _
   refine b44.go 90 rfl fun hsm => ?_
   simp only [smw] at hsm
   simp only [W, seval, c44, hin, htm, hn, mapD_nil, mapD_cons]
   refine (put1 [45]).callJ hin htm hk ?_ fun s1 h_s1 => ?_
   ·try simp only [lnw]
    omega
   have hl_s1 := congrArg List.length h_s1
   simp only [lnw] at hl_s1
   refine ARun.go 60 ?_
   simp only [W, seval, c44, hin, htm, hn, exD_eq]
   refine (tight_pw ih).callJ hin htm hk ?_ fun s2 h_s2 => ?_
   ·try simp only [lnw]
    omega
   have hl_s2 := congrArg List.length h_s2
   simp only [lnw] at hl_s2
   refine ARun.go 20 ?_
   simp only [W, seval, c44]
   refine ARun.fin Tryz.func44 rfl (PW.retJ hin htm ?_)
   subst h_s1 h_s2 ha
   exact ⟨rfl, by simp⟩
 | bin d g y z hd hg hy hz ihy ihz =>
  intro i t s k B T hin htm hk hb
  obtain ⟨N, hn⟩ : ∃ N, B.length = N := ⟨_, rfl⟩
  obtain ⟨u, hu⟩ : ∃ u, exT (.mk 6 g 0 noT [] [y, z]) = u := ⟨_, rfl⟩
  have hb6 : PW 73 [exV (.mk 6 g 0 noT [] [y, z])] fun _ => u := (binary_pw g ihy ihz).cong fun _ => hu
  rw [hu] at hb ⊢
  obtain ⟨a, ha⟩ : ∃ a, s ++ u = a := ⟨_, rfl⟩
  dsimp only at hb ⊢
  rw [ha]
  change AFn _ _ _ [.ptr i 0, .agg [.d (.int .i64 6), .d (.str g), .d (.int .u64 0), .d (.int .i64 0), .d (.str []), .d (.sl []), .d (.sl []), .d (.sl [exD y, exD z])]] _ _
  refine b44.go 90 rfl fun hsm => ?_
  simp only [smw] at hsm
  simp only [W, seval, c44, hin, htm, hn]
  refine (hb6).callJ hin htm hk ?_ fun s1 h_s1 => ?_
  ·try simp only [lnw]
   omega
  have hl_s1 := congrArg List.length h_s1
  simp only [lnw] at hl_s1
  refine ARun.go 20 ?_
  simp only [W, seval, c44]
  refine ARun.fin Tryz.func44 rfl (PW.retJ hin htm ?_)
  subst h_s1 ha
  exact ⟨rfl, rfl⟩
 | cal d g ks hd hg hks ih =>
  intro i t s k B T hin htm hk hb
  obtain ⟨N, hn⟩ : ∃ N, B.length = N := ⟨_, rfl⟩
  have hty : exT (.mk 7 g 0 noT [] ks) = g ++ [40] ++ comT (ks.map exT) ++ [41] := by
   rw [← exTs_map]
   rfl
  rw [hty] at hb ⊢
  obtain ⟨a, ha⟩ : ∃ a, s ++ (g ++ [40] ++ comT (ks.map exT) ++ [41]) = a := ⟨_, rfl⟩
  dsimp only at hb ⊢
  rw [ha]
  simp only [lnw] at hb
  have hgl : g.length + 1 ≤ 9223372036854775807 := by unfold mostW at hb; omega
  change AFn _ _ _ [.ptr i 0, .agg [.d (.int .i64 7), .d (.str g), .d (.int .u64 0), .d (.int .i64 0), .d (.str []), .d (.sl []), .d (.sl []), .d (.sl (ks.map exD))]] _ _
  refine b44.go 120 rfl fun hsm => ?_
  simp only [smw] at hsm
  simp only [W, seval, c44, hin, htm, hn, hgl]
  refine (list_Expr_pl (g := 44) (tx := exT) ih (g ++ [40]) [41]).callJ hin htm hk ?_ fun s1 h_s1 => ?_
  ·try simp only [lnw]
   omega
  have hl_s1 := congrArg List.length h_s1
  simp only [lnw] at hl_s1
  refine ARun.go 20 ?_
  simp only [W, seval, c44]
  refine ARun.fin Tryz.func44 rfl (PW.retJ hin htm ?_)
  subst h_s1 ha
  exact ⟨rfl, by simp⟩
 | con d q y hd h2 h6 hy ih =>
  intro i t s k B T hin htm hk hb
  obtain ⟨N, hn⟩ : ∃ N, B.length = N := ⟨_, rfl⟩
  obtain ⟨u, hu⟩ : ∃ u, exT (.mk 8 [] 0 (.mk q [] []) [] [y]) = u := ⟨_, rfl⟩
  have hb8 : PW 75 [exV (.mk 8 [] 0 (.mk q [] []) [] [y])] fun _ => u := (conv_pw q h2 h6 ih).cong fun _ => hu
  rw [hu] at hb ⊢
  obtain ⟨a, ha⟩ : ∃ a, s ++ u = a := ⟨_, rfl⟩
  dsimp only at hb ⊢
  rw [ha]
  change AFn _ _ _ [.ptr i 0, .agg [.d (.int .i64 8), .d (.str []), .d (.int .u64 0), .d (.int .i64 q), .d (.str []), .d (.sl []), .d (.sl []), .d (.sl [exD y])]] _ _
  refine b44.go 120 rfl fun hsm => ?_
  simp only [smw] at hsm
  simp only [W, seval, c44, hin, htm, hn]
  refine (hb8).callJ hin htm hk ?_ fun s1 h_s1 => ?_
  ·try simp only [lnw]
   omega
  have hl_s1 := congrArg List.length h_s1
  simp only [lnw] at hl_s1
  refine ARun.go 20 ?_
  simp only [W, seval, c44]
  refine ARun.fin Tryz.func44 rfl (PW.retJ hin htm ?_)
  subst h_s1 ha
  exact ⟨rfl, rfl⟩
 | str d n ns ks hd hid hlen hns hks ih =>
  intro i t s k B T hin htm hk hb
  obtain ⟨N, hn⟩ : ∃ N, B.length = N := ⟨_, rfl⟩
  obtain ⟨u, hu⟩ : ∃ u, exT (.mk 14 [] 0 (.mk 7 n []) ns ks) = u := ⟨_, rfl⟩
  have hb8 : PW 75 [exV (.mk 14 [] 0 (.mk 7 n []) ns ks)] fun _ => u := (str_pw hid hlen ih).cong fun _ => hu
  rw [hu] at hb ⊢
  obtain ⟨a, ha⟩ : ∃ a, s ++ u = a := ⟨_, rfl⟩
  dsimp only at hb ⊢
  rw [ha]
  change AFn _ _ _ [.ptr i 0, .agg [.d (.int .i64 14), .d (.str []), .d (.int .u64 0), .d (.int .i64 7), .d (.str n), .d (.sl []), .d (.sl (ssD ns)), .d (.sl (ks.map exD))]] _ _
  refine b44.go 120 rfl fun hsm => ?_
  simp only [smw] at hsm
  simp only [W, seval, c44, hin, htm, hn]
  refine (hb8).callJ hin htm hk ?_ fun s1 h_s1 => ?_
  ·try simp only [lnw]
   omega
  have hl_s1 := congrArg List.length h_s1
  simp only [lnw] at hl_s1
  refine ARun.go 20 ?_
  simp only [W, seval, c44]
  refine ARun.fin Tryz.func44 rfl (PW.retJ hin htm ?_)
  subst h_s1 ha
  exact ⟨rfl, rfl⟩
 | lis d y ks hd hy hks ih =>
  intro i t s k B T hin htm hk hb
  obtain ⟨N, hn⟩ : ∃ N, B.length = N := ⟨_, rfl⟩
  obtain ⟨u, hu⟩ : ∃ u, exT (.mk 15 [] 0 (.mk 8 [] [y]) [] ks) = u := ⟨_, rfl⟩
  have hb8 : PW 75 [exV (.mk 15 [] 0 (.mk 8 [] [y]) [] ks)] fun _ => u := (lis_pw hy ih).cong fun _ => hu
  rw [hu] at hb ⊢
  obtain ⟨a, ha⟩ : ∃ a, s ++ u = a := ⟨_, rfl⟩
  dsimp only at hb ⊢
  rw [ha]
  change AFn _ _ _ [.ptr i 0, .agg [.d (.int .i64 15), .d (.str []), .d (.int .u64 0), .d (.int .i64 8), .d (.str []), .d (.sl [tyD y]), .d (.sl []), .d (.sl (ks.map exD))]] _ _
  refine b44.go 120 rfl fun hsm => ?_
  simp only [smw] at hsm
  simp only [W, seval, c44, hin, htm, hn]
  refine (hb8).callJ hin htm hk ?_ fun s1 h_s1 => ?_
  ·try simp only [lnw]
   omega
  have hl_s1 := congrArg List.length h_s1
  simp only [lnw] at hl_s1
  refine ARun.go 20 ?_
  simp only [W, seval, c44]
  refine ARun.fin Tryz.func44 rfl (PW.retJ hin htm ?_)
  subst h_s1 ha
  exact ⟨rfl, rfl⟩
 | fld d g y hd hg hy ih =>
  intro i t s k B T hin htm hk hb
  obtain ⟨N, hn⟩ : ∃ N, B.length = N := ⟨_, rfl⟩
  have hty : exT (.mk 9 g 0 noT [] [y]) = parT (tigB y) (exT y) ++ ([46] ++ g) := rfl
  rw [hty] at hb ⊢
  obtain ⟨a, ha⟩ : ∃ a, s ++ (parT (tigB y) (exT y) ++ ([46] ++ g)) = a := ⟨_, rfl⟩
  dsimp only at hb ⊢
  rw [ha]
  simp only [lnw] at hb
  change AFn _ _ _ [.ptr i 0, .agg [.d (.int .i64 9), .d (.str g), .d (.int .u64 0), .d (.int .i64 0), .d (.str []), .d (.sl []), .d (.sl []), .d (.sl [exD y])]] _ _
  refine b44.go 120 rfl fun hsm => ?_
  simp only [smw] at hsm
  simp only [W, seval, c44, hin, htm, hn, exD_eq]
  refine (tight_pw ih).callJ hin htm hk ?_ fun s1 h_s1 => ?_
  ·try simp only [lnw]
   omega
  have hl_s1 := congrArg List.length h_s1
  simp only [lnw] at hl_s1
  refine ARun.go 60 ?_
  simp only [W, seval, c44, hin, htm, hn, mapD_nil, mapD_cons]
  refine (put2 [46] g).callJ hin htm hk ?_ fun s2 h_s2 => ?_
  ·try simp only [lnw]
   omega
  have hl_s2 := congrArg List.length h_s2
  simp only [lnw] at hl_s2
  refine ARun.go 20 ?_
  simp only [W, seval, c44]
  refine ARun.fin Tryz.func44 rfl (PW.retJ hin htm ?_)
  subst h_s1 h_s2 ha
  exact ⟨rfl, by simp⟩
 | idx d y z hd hy hz ihy ihz =>
  intro i t s k B T hin htm hk hb
  obtain ⟨N, hn⟩ : ∃ N, B.length = N := ⟨_, rfl⟩
  have hty : exT (.mk 10 [] 0 noT [] [y, z]) = parT (tigB y) (exT y) ++ [91] ++ exT z ++ [93] := rfl
  rw [hty] at hb ⊢
  obtain ⟨a, ha⟩ : ∃ a, s ++ (parT (tigB y) (exT y) ++ [91] ++ exT z ++ [93]) = a := ⟨_, rfl⟩
  dsimp only at hb ⊢
  rw [ha]
  simp only [lnw] at hb
  change AFn _ _ _ [.ptr i 0, .agg [.d (.int .i64 10), .d (.str []), .d (.int .u64 0), .d (.int .i64 0), .d (.str []), .d (.sl []), .d (.sl []), .d (.sl [exD y, exD z])]] _ _
  refine b44.go 120 rfl fun hsm => ?_
  simp only [smw] at hsm
  simp only [W, seval, c44, hin, htm, hn, exD_eq]
  refine (tight_pw ihy).callJ hin htm hk ?_ fun s1 h_s1 => ?_
  ·try simp only [lnw]
   omega
  have hl_s1 := congrArg List.length h_s1
  simp only [lnw] at hl_s1
  refine ARun.go 60 ?_
  simp only [W, seval, c44, hin, htm, hn, mapD_nil, mapD_cons]
  refine (put1 [91]).callJ hin htm hk ?_ fun s2 h_s2 => ?_
  ·try simp only [lnw]
   omega
  have hl_s2 := congrArg List.length h_s2
  simp only [lnw] at hl_s2
  refine ARun.go 60 ?_
  simp only [W, seval, c44, hin, htm, hn, exD_eq]
  refine (ihz).callJ hin htm hk ?_ fun s3 h_s3 => ?_
  ·try simp only [lnw]
   omega
  have hl_s3 := congrArg List.length h_s3
  simp only [lnw] at hl_s3
  refine ARun.go 60 ?_
  simp only [W, seval, c44, hin, htm, hn, mapD_nil, mapD_cons]
  refine (put1 [93]).callJ hin htm hk ?_ fun s4 h_s4 => ?_
  ·try simp only [lnw]
   omega
  have hl_s4 := congrArg List.length h_s4
  simp only [lnw] at hl_s4
  refine ARun.go 20 ?_
  simp only [W, seval, c44]
  refine ARun.fin Tryz.func44 rfl (PW.retJ hin htm ?_)
  subst h_s1 h_s2 h_s3 h_s4 ha
  exact ⟨rfl, by simp⟩
 | cut d y z v hd hy hz hv ihy ihz ihv =>
  intro i t s k B T hin htm hk hb
  obtain ⟨N, hn⟩ : ∃ N, B.length = N := ⟨_, rfl⟩
  have hty : exT (.mk 11 [] 0 noT [] [y, z, v]) = parT (tigB y) (exT y) ++ [91] ++ exT z ++ [58] ++ exT v ++ [93] := rfl
  rw [hty] at hb ⊢
  obtain ⟨a, ha⟩ : ∃ a, s ++ (parT (tigB y) (exT y) ++ [91] ++ exT z ++ [58] ++ exT v ++ [93]) = a := ⟨_, rfl⟩
  dsimp only at hb ⊢
  rw [ha]
  simp only [lnw] at hb
  change AFn _ _ _ [.ptr i 0, .agg [.d (.int .i64 11), .d (.str []), .d (.int .u64 0), .d (.int .i64 0), .d (.str []), .d (.sl []), .d (.sl []), .d (.sl [exD y, exD z, exD v])]] _ _
  refine b44.go 120 rfl fun hsm => ?_
  simp only [smw] at hsm
  simp only [W, seval, c44, hin, htm, hn, exD_eq]
  refine (tight_pw ihy).callJ hin htm hk ?_ fun s1 h_s1 => ?_
  ·try simp only [lnw]
   omega
  have hl_s1 := congrArg List.length h_s1
  simp only [lnw] at hl_s1
  refine ARun.go 60 ?_
  simp only [W, seval, c44, hin, htm, hn, mapD_nil, mapD_cons]
  refine (put1 [91]).callJ hin htm hk ?_ fun s2 h_s2 => ?_
  ·try simp only [lnw]
   omega
  have hl_s2 := congrArg List.length h_s2
  simp only [lnw] at hl_s2
  refine ARun.go 60 ?_
  simp only [W, seval, c44, hin, htm, hn, exD_eq]
  refine (ihz).callJ hin htm hk ?_ fun s3 h_s3 => ?_
  ·try simp only [lnw]
   omega
  have hl_s3 := congrArg List.length h_s3
  simp only [lnw] at hl_s3
  refine ARun.go 60 ?_
  simp only [W, seval, c44, hin, htm, hn, mapD_nil, mapD_cons]
  refine (put1 [58]).callJ hin htm hk ?_ fun s4 h_s4 => ?_
  ·try simp only [lnw]
   omega
  have hl_s4 := congrArg List.length h_s4
  simp only [lnw] at hl_s4
  refine ARun.go 60 ?_
  simp only [W, seval, c44, hin, htm, hn, exD_eq]
  refine (ihv).callJ hin htm hk ?_ fun s5 h_s5 => ?_
  ·try simp only [lnw]
   omega
  have hl_s5 := congrArg List.length h_s5
  simp only [lnw] at hl_s5
  refine ARun.go 60 ?_
  simp only [W, seval, c44, hin, htm, hn, mapD_nil, mapD_cons]
  refine (put1 [93]).callJ hin htm hk ?_ fun s6 h_s6 => ?_
  ·try simp only [lnw]
   omega
  have hl_s6 := congrArg List.length h_s6
  simp only [lnw] at hl_s6
  refine ARun.go 20 ?_
  simp only [W, seval, c44]
  refine ARun.fin Tryz.func44 rfl (PW.retJ hin htm ?_)
  subst h_s1 h_s2 h_s3 h_s4 h_s5 h_s6 ha
  exact ⟨rfl, by simp⟩
 | len d y hd hy ih =>
  intro i t s k B T hin htm hk hb
  obtain ⟨N, hn⟩ : ∃ N, B.length = N := ⟨_, rfl⟩
  have hty : exT (.mk 12 [] 0 noT [] [y]) = [108, 101, 110, 40] ++ comT (List.map exT [y]) ++ [41] := rfl
  rw [hty] at hb ⊢
  obtain ⟨a, ha⟩ : ∃ a, s ++ ([108, 101, 110, 40] ++ comT (List.map exT [y]) ++ [41]) = a := ⟨_, rfl⟩
  dsimp only at hb ⊢
  rw [ha]
  simp only [lnw] at hb
  change AFn _ _ _ [.ptr i 0, .agg [.d (.int .i64 12), .d (.str []), .d (.int .u64 0), .d (.int .i64 0), .d (.str []), .d (.sl []), .d (.sl []), .d (.sl [exD y])]] _ _
  refine b44.go 120 rfl fun hsm => ?_
  simp only [smw] at hsm
  simp only [W, seval, c44, hin, htm, hn]
  refine (list_Expr_pl (g := 44) (l := [y]) (tx := exT) (fun x hx => by rw [List.mem_singleton.1 hx]; exact ih) [108, 101, 110, 40] [41]).callJ hin htm hk ?_ fun s1 h_s1 => ?_
  ·try simp only [lnw]
   omega
  have hl_s1 := congrArg List.length h_s1
  simp only [lnw] at hl_s1
  refine ARun.go 20 ?_
  simp only [W, seval, c44]
  refine ARun.fin Tryz.func44 rfl (PW.retJ hin htm ?_)
  subst h_s1 ha
  exact ⟨rfl, by simp⟩
 | app d y z hd hy hz ihy ihz =>
  intro i t s k B T hin htm hk hb
  obtain ⟨N, hn⟩ : ∃ N, B.length = N := ⟨_, rfl⟩
  have hyz : ∀ x ∈ [y, z], PWE x := by
   intro x hx
   rcases List.mem_cons.1 hx with rfl | hx
   ·exact ihy
   ·rw [List.mem_singleton.1 hx]
    exact ihz
  have hty : exT (.mk 13 [] 0 noT [] [y, z]) = [97, 112, 112, 101, 110, 100, 40] ++ comT (List.map exT [y, z]) ++ [41] := rfl
  rw [hty] at hb ⊢
  obtain ⟨a, ha⟩ : ∃ a, s ++ ([97, 112, 112, 101, 110, 100, 40] ++ comT (List.map exT [y, z]) ++ [41]) = a := ⟨_, rfl⟩
  dsimp only at hb ⊢
  rw [ha]
  simp only [lnw] at hb
  change AFn _ _ _ [.ptr i 0, .agg [.d (.int .i64 13), .d (.str []), .d (.int .u64 0), .d (.int .i64 0), .d (.str []), .d (.sl []), .d (.sl []), .d (.sl [exD y, exD z])]] _ _
  refine b44.go 120 rfl fun hsm => ?_
  simp only [smw] at hsm
  simp only [W, seval, c44, hin, htm, hn]
  refine (list_Expr_pl (g := 44) (l := [y, z]) (tx := exT) hyz [97, 112, 112, 101, 110, 100, 40] [41]).callJ hin htm hk ?_ fun s1 h_s1 => ?_
  ·try simp only [lnw]
   omega
  have hl_s1 := congrArg List.length h_s1
  simp only [lnw] at hl_s1
  refine ARun.go 20 ?_
  simp only [W, seval, c44]
  refine ARun.fin Tryz.func44 rfl (PW.retJ hin htm ?_)
  subst h_s1 ha
  exact ⟨rfl, by simp⟩
def c115 := by
 have c := KK_of Tryz.f115 (by conv => lhs; cbv)
 dsimp only [KK, KxP, doO, opO, List.map_cons, List.map_nil, List.toList_toArray] at c
 exact c
theorem b115 : FnIs Tryz.prog 115 Tryz.f115 15 := ⟨Tryz.func115, by kernel_rfl⟩
def c53 := by
 have c := KK_of Tryz.f53 (by conv => lhs; cbv)
 dsimp only [KK, KxP, doO, opO, List.map_cons, List.map_nil, List.toList_toArray] at c
 exact c
theorem b53 : FnIs Tryz.prog 53 Tryz.f53 30 := ⟨Tryz.func53, by kernel_rfl⟩
def c116 := by
 have c := KK_of Tryz.f116 (by conv => lhs; cbv)
 dsimp only [KK, KxP, doO, opO, List.map_cons, List.map_nil, List.toList_toArray] at c
 exact c
theorem b116 : FnIs Tryz.prog 116 Tryz.f116 19 := ⟨Tryz.func116, by kernel_rfl⟩
def PK (ok : Nat → Prop) (f : FuncId) (ar : List V) (u : Nat → List UInt8) : Prop := ∀ (i t : Nat) (s : List UInt8) (k : Nat) (B : List (List V)) (T : List (Nat × Nat)), i < B.length → t < T.length → ok k → s.length + (u k).length ≤ mostW →
 AFn Tryz.prog TabI f (.ptr i 0 :: ar) ⟨B.set i (bxW i t s k), T.set t (s.length, 1)⟩ (Same (.tup []) ⟨B.set i (bxW i t (s ++ u k) k), T.set t ((s ++ u k).length, 1)⟩)
section
variable {ok : Nat → Prop} {f : FuncId} {ar : List V} {u : Nat → List UInt8} {i t k : Nat} {s : List UInt8} {B J : List (List V)} {T : List (Nat × Nat)} {stop : Cont} {q : List Item} {d : Option Tmp} {env : List V}
theorem PK.callJ (h : PK ok f ar u) (hi : i < B.length) (ht : t < T.length) (hk : ok k) (hb : s.length + (u k).length ≤ mostW) (hc : ∀ s', s ++ u k = s' → stop q (setV env d (.tup [])) ⟨B.set i (bxW i t s' k) ++ J, T.set t (s'.length, 1)⟩) :
 callS Tryz.prog TabI stop (.func f [] []) (.ptr i 0 :: ar) q d env ⟨B.set i (bxW i t s k) ++ J, T.set t (s.length, 1)⟩ := by
 have h' := h i t s k (B ++ J) T (by simp; omega) ht hk hb
 rw [List.set_append_left _ _ hi, List.set_append_left _ _ hi] at h'
 exact callS_fn h' fun _ _ ⟨e1, e2⟩ => by rw [e1, e2]; exact hc _ rfl
theorem PK.call0 (h : PK ok f ar u) (hi : i < B.length) (ht : t < T.length) (hk : ok k) (hb : s.length + (u k).length ≤ mostW) (hc : ∀ s', s ++ u k = s' → stop q (setV env d (.tup [])) ⟨B.set i (bxW i t s' k), T.set t (s'.length, 1)⟩) :
 callS Tryz.prog TabI stop (.func f [] []) (.ptr i 0 :: ar) q d env ⟨B.set i (bxW i t s k), T.set t (s.length, 1)⟩ :=
 callS_fn (h i t s k B T hi ht hk hb) fun _ _ ⟨e1, e2⟩ => by rw [e1, e2]; exact hc _ rfl
end
theorem PK.mono {ok ok' : Nat → Prop} {f : FuncId} {ar : List V} {u : Nat → List UInt8} (h : PK ok f ar u) (hk : ∀ k, ok' k → ok k) : PK ok' f ar u := fun i t s k B T a b c e => h i t s k B T a b (hk k c) e
theorem fitsJ {i t k : Nat} {s s' : List UInt8} {B A : List (List V)} {T : List (Nat × Nat)} {a b : Nat × Nat} (hi : i < B.length) (ht : t < T.length) (hf : Fits ⟨B.set i (bxW i t s k) ++ A, T.set t a⟩) : Fits ⟨B.set i (bxW i t s' k) ++ A, T.set t b⟩ := by
 rw [← List.set_append_left _ _ hi] at hf ⊢
 exact fitsW (B := B ++ A) (L := B ++ A) rfl rfl rfl (by simp; omega) ht hf (.refl _ _ _)
theorem line_pw (l : List (List UInt8)) (hl : l.length ≤ 10) : PW 115 [.sl (ssD l) .full] fun k => tabT k ++ l.flatten := by
 intro i t s k B T hin htm hk hb
 obtain ⟨a, ha⟩ : ∃ a, s ++ (tabT k ++ l.flatten) = a := ⟨_, rfl⟩
 dsimp only at hb ⊢
 rw [ha]
 simp only [lnw] at hb
 have hrep := fun S => repeat_ab 9 k (by omega) S
 rw [show List.replicate k 9 = tabT k from rfl] at hrep
 have hrd : bxW i t s k = [.self i 54, .buf (s.map byteRow) t 5, .d (.int .i64 (k : Int))] := rfl
 refine b115.go 40 rfl fun hsm => ?_
 simp only [smw] at hsm
 simp only [W, seval, c115, hin, htm, hrd]
 rw [← hrd]
 refine callS_fn (hrep _) ?_
 rintro _ _ ⟨rfl, rfl⟩
 refine ARun.go 20 ?_
 simp only [W, seval, c115, hin, htm, mapD_nil, mapD_cons]
 refine (put1 (tabT k)).call0 hin htm hk ?_ fun s1 h_s1 => ?_
 ·try simp only [lnw]
  omega
 have hl_s1 := congrArg List.length h_s1
 simp only [lnw] at hl_s1
 refine ARun.go 20 ?_
 simp only [W, seval, c115]
 refine (put_pw l hl).call0 hin htm hk ?_ fun s2 h_s2 => ?_
 ·try simp only [lnw]
  omega
 have hl_s2 := congrArg List.length h_s2
 simp only [lnw] at hl_s2
 refine ARun.go 20 ?_
 simp only [W, seval, c115]
 refine ARun.fin Tryz.func115 rfl (PW.ret0 hin htm ?_)
 subst h_s1 h_s2 ha
 exact ⟨rfl, by simp⟩
theorem line0 : PW 115 [.sl [] .full] fun k => tabT k := (line_pw [] (by simp)).cong fun _ => by simp
theorem line1 (x : List UInt8) : PW 115 [.sl [[.str x]] .full] fun k => tabT k ++ x := (line_pw [x] (by simp)).cong fun _ => by simp
theorem line2 (x y : List UInt8) : PW 115 [.sl [[.str x], [.str y]] .full] fun k => tabT k ++ (x ++ y) := (line_pw [x, y] (by simp)).cong fun _ => by simp
theorem line3 (x y z : List UInt8) : PW 115 [.sl [[.str x], [.str y], [.str z]] .full] fun k => tabT k ++ (x ++ y ++ z) := (line_pw [x, y, z] (by simp)).cong fun _ => by simp
theorem stTs_drop (n : Nat) (l : List StT) (j : Nat) (h : j < l.length) : stTs n (l.drop j) = stT n l[j] ++ stTs n (l.drop (j + 1)) := by
 rw [List.drop_eq_getElem_cons h, stTs]
set_option maxHeartbeats 2000000 in
theorem block_pk {ok : Nat → Prop} {l : List StT} (hl : ∀ x ∈ l, PK ok 87 [stV x] fun k => stT k x) : PK (fun k => ok (k + 1) ∧ k ≤ 800) 53 [.d (.sl (l.map stD))] fun k => stTs (k + 1) l := by
 intro i t s k B T hin htm hk hb
 obtain ⟨hok, hk8⟩ := hk
 obtain ⟨N, hn⟩ : ∃ N, B.length = N := ⟨_, rfl⟩
 obtain ⟨a, ha⟩ : ∃ a, s ++ stTs (k + 1) l = a := ⟨_, rfl⟩
 have hal := congrArg List.length ha
 rw [List.length_append] at hal
 dsimp only at hb ⊢
 rw [ha]
 have hin' : i < N := by omega
 have hwk := wrap_in ((k : Int) + 1) (by omega)
 have hwd := wrap_in ((k : Int) + 1 - 1) (by omega)
 have hwk0 := wrap_in (k : Int) (by omega)
 have hrd : ∀ s, bxW i t s k = [.self i 54, .buf (s.map byteRow) t 5, .d (.int .i64 (k : Int))] := fun s => rfl
 have hrd1 : ∀ s, bxW i t s (k + 1) = [.self i 54, .buf (s.map byteRow) t 5, .d (.int .i64 ((k : Int) + 1))] := fun s => rfl
 refine b53.go 40 rfl fun hsm => ?_
 simp only [smw] at hsm
 simp only [W, seval, c53, hin, hin', htm, hn, hrd, hwk]
 rw [← hrd1, ← hrd]
 refine ARun.fits fun hf => ?_
 refine ARun.loopB (fun p : Nat × List UInt8 => (envS 30 [(0, .ptr i 0), (13, .d (.sl (l.map stD))), (14, .d (.int .i64 (l.length : Int))), (15, .d (.int .i64 (p.1 : Int)))], ⟨B.set i (bxW i t p.2 (k + 1)), T.set t (p.2.length, 1)⟩)) (fun p => p.1 ≤ l.length ∧ p.2 ++ stTs (k + 1) (l.drop p.1) = a) (fun p => l.length - p.1) (0, s) ⟨by simp, ha⟩ ?_ rfl ?_
 ·skip
  refine Agree.env _ ?_
  simp only [agw, seval, hn]
 rintro ⟨j, s1⟩ ⟨h1, h2⟩ ih
 dsimp only at h1 h2 ih ⊢
 by_cases hlt : j < l.length
 case neg =>
  have e1 : decide ((j : Int) < (l.length : Int)) = false := decide_eq_false (by omega)
  rw [List.drop_eq_nil_of_le (by omega), stTs, List.append_nil] at h2
  subst h2
  refine ARun.go 60 ?_
  simp only [W, seval, c53, e1, hin, htm, hrd1, hwd, hwk0, Int.add_sub_cancel]
  rw [← hrd]
  refine ARun.fin Tryz.func53 rfl (PW.ret0 hin htm ?_)
  exact ⟨rfl, rfl⟩
 have e1 : decide ((j : Int) < (l.length : Int)) = true := decide_eq_true (by omega)
 have hwj := wrap_in ((j : Int) + 1) (by omega)
 have hga := List.getElem?_eq_getElem hlt
 have hgx := hl l[j] (List.getElem_mem hlt)
 rw [stTs_drop _ l j hlt, ← List.append_assoc] at h2
 obtain ⟨x, hx⟩ : ∃ x, l[j] = x := ⟨_, rfl⟩
 rw [hx] at hga h2 hgx
 have h2l := congrArg List.length h2
 simp only [lnw] at h2l
 refine ARun.go 60 ?_
 simp only [W, seval, c53, e1, hn, List.getElem?_map, hga, stD_eq]
 refine (hgx).callJ hin htm hok ?_ fun s2 h_s2 => ?_
 ·try simp only [lnw]
  omega
 have hl_s2 := congrArg List.length h_s2
 simp only [lnw] at hl_s2
 rw [h_s2] at h2
 refine ARun.go 60 ?_
 simp only [W, seval, c53, hwj]
 refine ih (j + 1, s2) ⟨by dsimp only; omega, h2⟩ (by dsimp only; omega) _ _ _ _ rfl ⟨by simp [hn], by simp⟩ ?_ ?_
 ·have := fitsJ (s' := s2) (b := (s2.length, 1)) (A := []) hin htm (by rw [List.append_nil]; exact hf)
  rwa [List.append_nil] at this
 refine AgreeF.env _ ?_
 simp only [agf, seval, hn, htm]
 exact decide_eq_true hin'
theorem headT_len (n : Nat) (key : List UInt8) (es : List ExT) : (hedT n key es).length = n + (key.length + 1) + (exT (kidE es 0)).length + 3 := by
 unfold hedT tabT
 simp
 omega
set_option maxHeartbeats 2000000 in
theorem head_pw {d : Int} {x : ExT} (hx : OkE d x) (key : List UInt8) (q : Int) (b e : List StT) (cs : List CaT) : PW 116 [.d (.str key), stV (.mk q [] noT [] [x] b e cs)] fun k => hedT k key [x] := by
 intro i t s k B T hin htm hk hb
 obtain ⟨N, hn⟩ : ∃ N, B.length = N := ⟨_, rfl⟩
 obtain ⟨a, ha⟩ : ∃ a, s ++ hedT k key [x] = a := ⟨_, rfl⟩
 dsimp only at hb ⊢
 rw [headT_len, show kidE [x] 0 = x from rfl] at hb
 rw [ha]
 have htab : (tabT k).length = k := by simp [tabT]
 change AFn _ _ _ [.ptr i 0, .d (.str key), .agg [.d (.int .i64 q), .d (.sl []), .d (.int .i64 0), .d (.str []), .d (.sl []), .d (.sl []), .d (.sl [exD x]), .d (.sl (b.map stD)), .d (.sl (e.map stD)), .d (.sl (cs.map caD))]] _ _
 refine b116.go 40 rfl fun _ => ?_
 simp only [W, seval, c116, hin, htm, hn, mapD_nil, mapD_cons]
 refine (line2 key [32]).callJ hin htm hk ?_ fun s1 h_s1 => ?_
 ·try simp only [lnw]
  omega
 have hl_s1 := congrArg List.length h_s1
 simp only [lnw] at hl_s1
 refine ARun.go 40 ?_
 simp only [W, seval, c116, hin, htm, hn, exD_eq]
 refine (expr_pw hx).callJ hin htm hk ?_ fun s2 h_s2 => ?_
 ·try simp only [lnw]
  omega
 have hl_s2 := congrArg List.length h_s2
 simp only [lnw] at hl_s2
 refine ARun.go 40 ?_
 simp only [W, seval, c116, hin, htm, hn, mapD_nil, mapD_cons]
 refine (put1 [32, 123, 10]).callJ hin htm hk ?_ fun s3 h_s3 => ?_
 ·try simp only [lnw]
  omega
 have hl_s3 := congrArg List.length h_s3
 simp only [lnw] at hl_s3
 refine ARun.go 20 ?_
 simp only [W, seval, c116]
 refine ARun.fin Tryz.func116 rfl (PW.retJ hin htm ?_)
 subst h_s1 h_s2 h_s3 ha
 exact ⟨rfl, by simp [hedT, show kidE [x] 0 = x from rfl]⟩
def c87 := by
 have c := KK_of Tryz.f87 (by conv => lhs; cbv)
 dsimp only [KK, KxP, doO, opO, List.map_cons, List.map_nil, List.toList_toArray] at c
 exact c
theorem b87 : FnIs Tryz.prog 87 Tryz.f87 120 := ⟨Tryz.func87, by kernel_rfl⟩
def PWS (d : Int) (x : StT) : Prop := PK (fun k => (k : Int) ≤ d + 1) 87 [stV x] fun k => stT k x
theorem PWS.block {d : Int} {l : List StT} (h : ∀ x ∈ l, PWS d x) : PK (fun k => (k : Int) ≤ d ∧ k ≤ 800) 53 [.d (.sl (l.map stD))] fun k => stTs (k + 1) l :=
 (block_pk h).mono fun k hk => ⟨by have := hk.1; omega, hk.2⟩
theorem caTs_one (k : Nat) (c : CaT) (l : List CaT) : caTs k (c :: l) = (tabT k ++ ([99, 97, 115, 101, 32] ++ digF 24 c.int.toNat ++ [58, 10])) ++ stTs (k + 1) c.body ++ caTs k l := by
 cases c
 rw [caTs]
 rfl
theorem caTs_drop (n : Nat) (l : List CaT) (j : Nat) (h : j < l.length) : caTs n (l.drop j) = (tabT n ++ ([99, 97, 115, 101, 32] ++ digF 24 l[j].int.toNat ++ [58, 10])) ++ stTs (n + 1) l[j].body ++ caTs n (l.drop (j + 1)) := by
 rw [List.drop_eq_getElem_cons h, caTs_one]
set_option maxHeartbeats 8000000 in
theorem stmt_ps {d : Int} {x : StT} (h : OkS d x) : PWS d x := by
 induction h with
 | var d n y hd hid hy =>
  intro i t s k B T hin htm hkd hb
  have hk : k ≤ 900 := by omega
  obtain ⟨N, hn⟩ : ∃ N, B.length = N := ⟨_, rfl⟩
  have hty : stT k (.mk 1 [n] y [] [] [] [] []) = tabT k ++ ([118, 97, 114, 32] ++ n ++ [32]) ++ typT y ++ [10] := rfl
  dsimp only at hb ⊢
  rw [hty] at hb ⊢
  obtain ⟨a, ha⟩ : ∃ a, s ++ (tabT k ++ ([118, 97, 114, 32] ++ n ++ [32]) ++ typT y ++ [10]) = a := ⟨_, rfl⟩
  rw [ha]
  simp only [lnw] at hb
  change AFn _ _ _ [.ptr i 0, .agg [.d (.int .i64 1), .d (.sl [[.str n]]), .d (.int .i64 y.kind), .d (.str y.name), .d (.sl (y.elem.map tyD)), .d (.sl []), .d (.sl []), .d (.sl []), .d (.sl []), .d (.sl [])]] _ _
  refine b87.go 90 rfl fun hsm => ?_
  simp only [smw] at hsm
  simp only [W, seval, c87, hin, htm, hn, mapD_nil, mapD_cons]
  refine (line3 [118, 97, 114, 32] n [32]).callJ hin htm hk ?_ fun s1 h_s1 => ?_
  ·try simp only [lnw]
   omega
  have hl_s1 := congrArg List.length h_s1
  simp only [lnw] at hl_s1
  refine ARun.go 40 ?_
  simp only [W, seval, c87, hin, htm, hn]
  refine (typ_pw hy).callJ hin htm hk ?_ fun s2 h_s2 => ?_
  ·try simp only [lnw]
   omega
  have hl_s2 := congrArg List.length h_s2
  simp only [lnw] at hl_s2
  refine ARun.go 40 ?_
  simp only [W, seval, c87, hin, htm, hn, mapD_nil, mapD_cons]
  refine (put1 [10]).callJ hin htm hk ?_ fun s3 h_s3 => ?_
  ·try simp only [lnw]
   omega
  have hl_s3 := congrArg List.length h_s3
  simp only [lnw] at hl_s3
  refine ARun.go 20 ?_
  simp only [W, seval, c87]
  refine ARun.fin Tryz.func87 rfl (PW.retJ hin htm ?_)
  subst h_s1 h_s2 h_s3 ha
  exact ⟨rfl, by simp⟩
 | set d ls es hd hl0 he0 hpl hls hes =>
  intro i t s k B T hin htm hkd hb
  have hk : k ≤ 900 := by omega
  obtain ⟨N, hn⟩ : ∃ N, B.length = N := ⟨_, rfl⟩
  have hty : stT k (.mk 2 [] noT ls es [] [] []) = tabT k ++ comT (ls.map exT) ++ ([32, 61, 32] ++ comT (es.map exT) ++ [10]) := by
   rw [← exTs_map, ← exTs_map, List.append_assoc [32, 61, 32]]
   rfl
  dsimp only at hb ⊢
  rw [hty] at hb ⊢
  obtain ⟨a, ha⟩ : ∃ a, s ++ (tabT k ++ comT (ls.map exT) ++ ([32, 61, 32] ++ comT (es.map exT) ++ [10])) = a := ⟨_, rfl⟩
  rw [ha]
  simp only [lnw] at hb
  change AFn _ _ _ [.ptr i 0, .agg [.d (.int .i64 2), .d (.sl []), .d (.int .i64 0), .d (.str []), .d (.sl []), .d (.sl (ls.map exD)), .d (.sl (es.map exD)), .d (.sl []), .d (.sl []), .d (.sl [])]] _ _
  refine b87.go 90 rfl fun hsm => ?_
  simp only [smw] at hsm
  simp only [W, seval, c87, hin, htm, hn, mapD_nil, mapD_cons]
  refine (line0).callJ hin htm hk ?_ fun s1 h_s1 => ?_
  ·try simp only [lnw]
   omega
  have hl_s1 := congrArg List.length h_s1
  simp only [lnw] at hl_s1
  refine ARun.go 40 ?_
  simp only [W, seval, c87, hin, htm, hn]
  refine (each_Expr_pl (g := 44) (tx := exT) (fun x hx => expr_pw (hls x hx))).callJ hin htm hk ?_ fun s2 h_s2 => ?_
  ·try simp only [lnw]
   omega
  have hl_s2 := congrArg List.length h_s2
  simp only [lnw] at hl_s2
  refine ARun.go 40 ?_
  simp only [W, seval, c87, hin, htm, hn]
  refine (list_Expr_pl (g := 44) (tx := exT) (fun x hx => expr_pw (hes x hx)) [32, 61, 32] [10]).callJ hin htm hk ?_ fun s3 h_s3 => ?_
  ·try simp only [lnw]
   omega
  have hl_s3 := congrArg List.length h_s3
  simp only [lnw] at hl_s3
  refine ARun.go 20 ?_
  simp only [W, seval, c87]
  refine ARun.fin Tryz.func87 rfl (PW.retJ hin htm ?_)
  subst h_s1 h_s2 h_s3 ha
  exact ⟨rfl, by simp⟩
 | ret d es hd he0 hes =>
  intro i t s k B T hin htm hkd hb
  have hk : k ≤ 900 := by omega
  obtain ⟨N, hn⟩ : ∃ N, B.length = N := ⟨_, rfl⟩
  have hty : stT k (.mk 6 [] noT [] es [] [] []) = tabT k ++ ([114, 101, 116, 117, 114, 110, 32] ++ comT (es.map exT) ++ [10]) := by
   rw [← exTs_map, List.append_assoc [114, 101, 116, 117, 114, 110, 32]]
   rfl
  dsimp only at hb ⊢
  rw [hty] at hb ⊢
  obtain ⟨a, ha⟩ : ∃ a, s ++ (tabT k ++ ([114, 101, 116, 117, 114, 110, 32] ++ comT (es.map exT) ++ [10])) = a := ⟨_, rfl⟩
  rw [ha]
  simp only [lnw] at hb
  change AFn _ _ _ [.ptr i 0, .agg [.d (.int .i64 6), .d (.sl []), .d (.int .i64 0), .d (.str []), .d (.sl []), .d (.sl []), .d (.sl (es.map exD)), .d (.sl []), .d (.sl []), .d (.sl [])]] _ _
  refine b87.go 90 rfl fun hsm => ?_
  simp only [smw] at hsm
  simp only [W, seval, c87, hin, htm, hn, mapD_nil, mapD_cons]
  refine (line0).callJ hin htm hk ?_ fun s1 h_s1 => ?_
  ·try simp only [lnw]
   omega
  have hl_s1 := congrArg List.length h_s1
  simp only [lnw] at hl_s1
  refine ARun.go 40 ?_
  simp only [W, seval, c87, hin, htm, hn]
  refine (list_Expr_pl (g := 44) (tx := exT) (fun x hx => expr_pw (hes x hx)) [114, 101, 116, 117, 114, 110, 32] [10]).callJ hin htm hk ?_ fun s2 h_s2 => ?_
  ·try simp only [lnw]
   omega
  have hl_s2 := congrArg List.length h_s2
  simp only [lnw] at hl_s2
  refine ARun.go 20 ?_
  simp only [W, seval, c87]
  refine ARun.fin Tryz.func87 rfl (PW.retJ hin htm ?_)
  subst h_s1 h_s2 ha
  exact ⟨rfl, by simp⟩
 | fro d x b hd hx hh hbo ihb =>
  intro i t s k B T hin htm hkd hb
  have hk : k ≤ 900 := by omega
  obtain ⟨N, hn⟩ : ∃ N, B.length = N := ⟨_, rfl⟩
  have hkb : (k : Int) ≤ d + 1 ∧ k ≤ 800 := ⟨hkd, by omega⟩
  have hty : stT k (.mk 4 [] noT [] [x] b [] []) = hedT k [102, 111, 114] [x] ++ stTs (k + 1) b ++ (tabT k ++ [125, 10]) := rfl
  dsimp only at hb ⊢
  rw [hty] at hb ⊢
  obtain ⟨a, ha⟩ : ∃ a, s ++ (hedT k [102, 111, 114] [x] ++ stTs (k + 1) b ++ (tabT k ++ [125, 10])) = a := ⟨_, rfl⟩
  rw [ha]
  simp only [lnw] at hb
  change AFn _ _ _ [.ptr i 0, .agg [.d (.int .i64 4), .d (.sl []), .d (.int .i64 0), .d (.str []), .d (.sl []), .d (.sl []), .d (.sl [exD x]), .d (.sl (b.map stD)), .d (.sl []), .d (.sl [])]] _ _
  refine b87.go 90 rfl fun hsm => ?_
  simp only [smw] at hsm
  simp only [W, seval, c87, hin, htm, hn, mapD_nil, mapD_cons]
  refine (head_pw hx [102, 111, 114] 4 b [] []).callJ hin htm hk ?_ fun s1 h_s1 => ?_
  ·try simp only [lnw]
   omega
  have hl_s1 := congrArg List.length h_s1
  simp only [lnw] at hl_s1
  refine ARun.go 40 ?_
  simp only [W, seval, c87, hin, htm, hn]
  refine (PWS.block ihb).callJ hin htm hkb ?_ fun s2 h_s2 => ?_
  ·try simp only [lnw]
   omega
  have hl_s2 := congrArg List.length h_s2
  simp only [lnw] at hl_s2
  refine ARun.go 40 ?_
  simp only [W, seval, c87, hin, htm, hn, mapD_nil, mapD_cons]
  refine (line1 [125, 10]).callJ hin htm hk ?_ fun s3 h_s3 => ?_
  ·try simp only [lnw]
   omega
  have hl_s3 := congrArg List.length h_s3
  simp only [lnw] at hl_s3
  refine ARun.go 20 ?_
  simp only [W, seval, c87]
  refine ARun.fin Tryz.func87 rfl (PW.retJ hin htm ?_)
  subst h_s1 h_s2 h_s3 ha
  exact ⟨rfl, by simp⟩
 | iff d x b e hd hx hh hbo he ihb ihe =>
  intro i t s k B T hin htm hkd hb
  have hk : k ≤ 900 := by omega
  obtain ⟨N, hn⟩ : ∃ N, B.length = N := ⟨_, rfl⟩
  have hkb : (k : Int) ≤ d + 1 ∧ k ≤ 800 := ⟨hkd, by omega⟩
  cases e with
  | nil =>
   have hty : stT k (.mk 3 [] noT [] [x] b [] []) = hedT k [105, 102] [x] ++ stTs (k + 1) b ++ [] ++ (tabT k ++ [125, 10]) := rfl
   dsimp only at hb ⊢
   rw [hty, List.append_nil] at hb ⊢
   obtain ⟨a, ha⟩ : ∃ a, s ++ (hedT k [105, 102] [x] ++ stTs (k + 1) b ++ (tabT k ++ [125, 10])) = a := ⟨_, rfl⟩
   rw [ha]
   simp only [lnw] at hb
   change AFn _ _ _ [.ptr i 0, .agg [.d (.int .i64 3), .d (.sl []), .d (.int .i64 0), .d (.str []), .d (.sl []), .d (.sl []), .d (.sl [exD x]), .d (.sl (b.map stD)), .d (.sl []), .d (.sl [])]] _ _
   refine b87.go 90 rfl fun hsm => ?_
   simp only [smw] at hsm
   simp only [W, seval, c87, hin, htm, hn, mapD_nil, mapD_cons]
   refine (head_pw hx [105, 102] 3 b [] []).callJ hin htm hk ?_ fun s1 h_s1 => ?_
   ·try simp only [lnw]
    omega
   have hl_s1 := congrArg List.length h_s1
   simp only [lnw] at hl_s1
   refine ARun.go 40 ?_
   simp only [W, seval, c87, hin, htm, hn]
   refine (PWS.block ihb).callJ hin htm hkb ?_ fun s2 h_s2 => ?_
   ·try simp only [lnw]
    omega
   have hl_s2 := congrArg List.length h_s2
   simp only [lnw] at hl_s2
   refine ARun.go 60 ?_
   simp only [W, seval, c87, hin, htm, hn, mapD_nil, mapD_cons]
   refine (line1 [125, 10]).callJ hin htm hk ?_ fun s3 h_s3 => ?_
   ·try simp only [lnw]
    omega
   have hl_s3 := congrArg List.length h_s3
   simp only [lnw] at hl_s3
   refine ARun.go 20 ?_
   simp only [W, seval, c87]
   refine ARun.fin Tryz.func87 rfl (PW.retJ hin htm ?_)
   subst h_s1 h_s2 h_s3 ha
   exact ⟨rfl, by simp⟩
  | cons y e =>
   have hty : stT k (.mk 3 [] noT [] [x] b (y :: e) []) = hedT k [105, 102] [x] ++ stTs (k + 1) b ++ (tabT k ++ [125, 32, 101, 108, 115, 101, 32, 123, 10] ++ stTs (k + 1) (y :: e)) ++ (tabT k ++ [125, 10]) := rfl
   have hpos : decide ((0 : Int) < ((y :: e).length : Int)) = true := decide_eq_true (by simp)
   generalize hw : y :: e = w at hty hpos ihe hb ⊢
   dsimp only at hb ⊢
   rw [hty] at hb ⊢
   obtain ⟨a, ha⟩ : ∃ a, s ++ (hedT k [105, 102] [x] ++ stTs (k + 1) b ++ (tabT k ++ [125, 32, 101, 108, 115, 101, 32, 123, 10] ++ stTs (k + 1) w) ++ (tabT k ++ [125, 10])) = a := ⟨_, rfl⟩
   rw [ha]
   simp only [lnw] at hb
   change AFn _ _ _ [.ptr i 0, .agg [.d (.int .i64 3), .d (.sl []), .d (.int .i64 0), .d (.str []), .d (.sl []), .d (.sl []), .d (.sl [exD x]), .d (.sl (b.map stD)), .d (.sl (w.map stD)), .d (.sl [])]] _ _
   refine b87.go 90 rfl fun hsm => ?_
   simp only [smw] at hsm
   simp only [W, seval, c87, hin, htm, hn, mapD_nil, mapD_cons]
   refine (head_pw hx [105, 102] 3 b w []).callJ hin htm hk ?_ fun s1 h_s1 => ?_
   ·try simp only [lnw]
    omega
   have hl_s1 := congrArg List.length h_s1
   simp only [lnw] at hl_s1
   refine ARun.go 40 ?_
   simp only [W, seval, c87, hin, htm, hn]
   refine (PWS.block ihb).callJ hin htm hkb ?_ fun s2 h_s2 => ?_
   ·try simp only [lnw]
    omega
   have hl_s2 := congrArg List.length h_s2
   simp only [lnw] at hl_s2
   refine ARun.go 60 ?_
   simp only [W, seval, c87, hin, htm, hn, mapD_nil, mapD_cons, hpos]
   refine (line1 [125, 32, 101, 108, 115, 101, 32, 123, 10]).callJ hin htm hk ?_ fun s3 h_s3 => ?_
   ·try simp only [lnw]
    omega
   have hl_s3 := congrArg List.length h_s3
   simp only [lnw] at hl_s3
   refine ARun.go 40 ?_
   simp only [W, seval, c87, hin, htm, hn]
   refine (PWS.block ihe).callJ hin htm hkb ?_ fun s4 h_s4 => ?_
   ·try simp only [lnw]
    omega
   have hl_s4 := congrArg List.length h_s4
   simp only [lnw] at hl_s4
   refine ARun.go 40 ?_
   simp only [W, seval, c87, hin, htm, hn, mapD_nil, mapD_cons]
   refine (line1 [125, 10]).callJ hin htm hk ?_ fun s5 h_s5 => ?_
   ·try simp only [lnw]
    omega
   have hl_s5 := congrArg List.length h_s5
   simp only [lnw] at hl_s5
   refine ARun.go 20 ?_
   simp only [W, seval, c87]
   refine ARun.fin Tryz.func87 rfl (PW.retJ hin htm ?_)
   subst h_s1 h_s2 h_s3 h_s4 h_s5 ha
   exact ⟨rfl, by simp⟩
 | swi d x e cs hd hx hh he hci hcb ihe ihc =>
  intro i t s k B T hin htm hkd hb
  have hk : k ≤ 900 := by omega
  obtain ⟨N, hn⟩ : ∃ N, B.length = N := ⟨_, rfl⟩
  have hin' : i < N := by omega
  have hkb : (k : Int) ≤ d + 1 ∧ k ≤ 800 := ⟨hkd, by omega⟩
  have hkc : (k : Int) ≤ d + 2 ∧ k ≤ 800 := ⟨by omega, by omega⟩
  obtain ⟨E, hE⟩ : ∃ E, (if e.isEmpty = true then [] else tabT k ++ [100, 101, 102, 97, 117, 108, 116, 58, 10] ++ stTs (k + 1) e) = E := ⟨_, rfl⟩
  have hty : stT k (.mk 5 [] noT [] [x] [] e cs) = hedT k [115, 119, 105, 116, 99, 104] [x] ++ caTs k cs ++ E ++ (tabT k ++ [125, 10]) := by
   rw [← hE]
   rfl
  dsimp only at hb ⊢
  rw [hty] at hb ⊢
  obtain ⟨a, ha⟩ : ∃ a, s ++ (hedT k [115, 119, 105, 116, 99, 104] [x] ++ caTs k cs ++ E ++ (tabT k ++ [125, 10])) = a := ⟨_, rfl⟩
  rw [ha]
  simp only [lnw] at hb
  change AFn _ _ _ [.ptr i 0, .agg [.d (.int .i64 5), .d (.sl []), .d (.int .i64 0), .d (.str []), .d (.sl []), .d (.sl []), .d (.sl [exD x]), .d (.sl []), .d (.sl (e.map stD)), .d (.sl (cs.map caD))]] _ _
  refine b87.go 90 rfl fun hsm => ?_
  simp only [smw] at hsm
  simp only [W, seval, c87, hin, htm, hn, mapD_nil, mapD_cons]
  refine (head_pw hx [115, 119, 105, 116, 99, 104] 5 [] e cs).callJ hin htm hk ?_ fun s1 h_s1 => ?_
  ·try simp only [lnw]
   omega
  have hl_s1 := congrArg List.length h_s1
  simp only [lnw] at hl_s1
  have ha1 : s1 ++ caTs k cs ++ (E ++ (tabT k ++ [125, 10])) = a := by rw [← ha, ← h_s1]; simp
  refine ARun.go 60 ?_
  simp only [W, seval, c87, hin, htm, hn, hin']
  refine ARun.fits fun hf => ?_
  refine ARun.loopB (fun p : Nat × List UInt8 => (envS 120 [(0, .ptr i 0), (3, .ptr N 0), (12, .d (.sl (cs.map caD))), (13, .d (.int .i64 (cs.length : Int))), (14, .d (.int .i64 (p.1 : Int)))], ⟨B.set i (bxW i t p.2 k) ++ [[.d (.int .i64 5), .d (.sl []), .d (.int .i64 0), .d (.str []), .d (.sl []), .d (.sl []), .d (.sl [exD x]), .d (.sl []), .d (.sl (e.map stD)), .d (.sl (cs.map caD))]], T.set t (p.2.length, 1)⟩)) (fun p => p.1 ≤ cs.length ∧ p.2 ++ caTs k (cs.drop p.1) ++ (E ++ (tabT k ++ [125, 10])) = a ∧ a.length ≤ mostW) (fun p => cs.length - p.1) (0, s1) ⟨by simp, ha1, by rw [← ha]; simp only [lnw]; omega⟩ ?_ rfl ?_
  ·skip
   refine Agree.env _ ?_
   simp only [agw, seval, hn]
  rintro ⟨j, s2⟩ ⟨h1, h2, h3⟩ ih
  dsimp only at h1 h2 ih ⊢
  by_cases hlt : j < cs.length
  case neg =>
   have e1 : decide ((j : Int) < (cs.length : Int)) = false := decide_eq_false (by omega)
   rw [List.drop_eq_nil_of_le (by omega), caTs, List.append_nil] at h2
   have h2l := congrArg List.length h2
   simp only [lnw] at h2l
   cases e with
   | nil =>
    have hE : ([] : List UInt8) = E := hE
    subst hE
    refine ARun.go 60 ?_
    simp only [W, seval, c87, e1, hin, htm, hn, hin', mapD_nil, mapD_cons]
    refine (line1 [125, 10]).callJ hin htm hk ?_ fun s3 h_s3 => ?_
    ·try simp only [lnw]
     omega
    have hl_s3 := congrArg List.length h_s3
    simp only [lnw] at hl_s3
    refine ARun.go 20 ?_
    simp only [W, seval, c87]
    refine ARun.fin Tryz.func87 rfl (PW.retJ hin htm ?_)
    subst h_s3 h2
    exact ⟨rfl, by simp⟩
   | cons y e =>
    have hE : tabT k ++ [100, 101, 102, 97, 117, 108, 116, 58, 10] ++ stTs (k + 1) (y :: e) = E := hE
    have hpos : decide ((0 : Int) < ((y :: e).length : Int)) = true := decide_eq_true (by simp)
    generalize hw : y :: e = w at hpos ihe hE ⊢
    have hEl := congrArg List.length hE
    simp only [lnw] at hEl
    refine ARun.go 60 ?_
    simp only [W, seval, c87, e1, hin, htm, hn, hin', mapD_nil, mapD_cons, hpos]
    refine (line1 [100, 101, 102, 97, 117, 108, 116, 58, 10]).callJ hin htm hk ?_ fun s3 h_s3 => ?_
    ·try simp only [lnw]
     omega
    have hl_s3 := congrArg List.length h_s3
    simp only [lnw] at hl_s3
    refine ARun.go 40 ?_
    simp only [W, seval, c87, hin, htm, hn, hin']
    refine (PWS.block ihe).callJ hin htm hkb ?_ fun s4 h_s4 => ?_
    ·try simp only [lnw]
     omega
    have hl_s4 := congrArg List.length h_s4
    simp only [lnw] at hl_s4
    refine ARun.go 60 ?_
    simp only [W, seval, c87, hin, htm, hn, mapD_nil, mapD_cons]
    refine (line1 [125, 10]).callJ hin htm hk ?_ fun s5 h_s5 => ?_
    ·try simp only [lnw]
     omega
    have hl_s5 := congrArg List.length h_s5
    simp only [lnw] at hl_s5
    refine ARun.go 20 ?_
    simp only [W, seval, c87]
    refine ARun.fin Tryz.func87 rfl (PW.retJ hin htm ?_)
    subst h_s3 h_s4 h_s5 hE h2
    exact ⟨rfl, by simp⟩
  have e1 : decide ((j : Int) < (cs.length : Int)) = true := decide_eq_true (by omega)
  have hwj := wrap_in ((j : Int) + 1) (by omega)
  have hga := List.getElem?_eq_getElem hlt
  have hcx := hci cs[j] (List.getElem_mem hlt)
  have hbx := ihc cs[j] (List.getElem_mem hlt)
  rw [caTs_drop _ cs j hlt] at h2
  obtain ⟨c, hc⟩ : ∃ c, cs[j] = c := ⟨_, rfl⟩
  rw [hc] at hga h2 hcx hbx
  have h2l := congrArg List.length h2
  simp only [lnw] at h2l
  refine ARun.go 60 ?_
  simp only [W, seval, c87, e1, hn, hin', List.getElem?_map, hga, caD_eq]
  refine callS_fn (funt_ab c.int hcx.1 hcx.2 _ _) ?_
  rintro _ _ ⟨rfl, rfl⟩
  refine ARun.go 60 ?_
  simp only [W, seval, c87, hn, hin', mapD_nil, mapD_cons]
  refine (line3 [99, 97, 115, 101, 32] (digF 24 c.int.toNat) [58, 10]).callJ hin htm hk ?_ fun s3 h_s3 => ?_
  ·try simp only [lnw]
   omega
  have hl_s3 := congrArg List.length h_s3
  simp only [lnw] at hl_s3
  refine ARun.go 60 ?_
  simp only [W, seval, c87, hn, hin']
  refine (PWS.block hbx).callJ hin htm hkc ?_ fun s4 h_s4 => ?_
  ·try simp only [lnw]
   omega
  have hl_s4 := congrArg List.length h_s4
  simp only [lnw] at hl_s4
  have h4 : s4 ++ caTs k (cs.drop (j + 1)) ++ (E ++ (tabT k ++ [125, 10])) = a := by rw [← h2, ← h_s4, ← h_s3]; simp
  refine ARun.go 60 ?_
  simp only [W, seval, c87, hwj]
  rw [app2]
  refine ih (j + 1, s4) ⟨by dsimp only; omega, h4, h3⟩ (by dsimp only; omega) _ _ _ _ rfl ⟨by simp [hn], by simp⟩ (fitsJ hin htm hf) ?_
  refine AgreeF.env _ ?_
  simp only [agf, seval, hn, htm]
  refine ⟨decide_eq_true ?_, decide_eq_true ?_⟩
  all_goals
   simp only [List.length_append, List.length_set, List.length_cons, List.length_nil, hn]
   omega
end Go.Proofs.YtfaoamebphckbaaGreatDoor
namespace Go.Proofs.YtfaoamebphckbaaGreatDoor
open Go.RowKit Go.Av
set_option linter.unusedSimpArgs false
set_option linter.unusedVariables false
section
variable {E : EP} {S : SP} {n : Nat}
theorem Bf.num {s : Ps} {t : List UInt8} {i : Nat} {y : Wd} {l : List Wd} {o : Int} {h : Bool} (b : Bf s ((2, t, i) :: y :: l) o h) (hy : y.1 ≠ 9) : ∃ s', numP s = ((i : Int), s') ∧ Bf s' (y :: l) o h := by
 refine ⟨nextP s, ?_, b.next hy⟩
 unfold numP
 rw [if_pos ⟨b.at'.e, b.at'.kind.1⟩, show s.w.int = i from congrArg (fun x : Wd => x.2.2) b.at'.w]
end
def OkPa (p : PaT) : Prop := identS p.name = true ∧ OkT p.type
def OkSu (s : SuT) : Prop := identS s.name = true ∧ ∀ f ∈ s.fields, OkPa f
def OkFu (f : FuT) : Prop := identS f.name = true ∧ (∀ p ∈ f.params, OkPa p) ∧ f.results ≠ [] ∧ (∀ t ∈ f.results, OkT t) ∧ ∀ s ∈ f.body, OkS 0 s
def OkPr (p : PrT) : Prop := (∀ s ∈ p.structs, OkSu s) ∧ ∀ f ∈ p.funcs, OkFu f
end Go.Proofs.YtfaoamebphckbaaGreatDoor
namespace Go.Proofs.YtfaoamebphckbaaGreatDoor
open Go.RowKit Go.Av Go.Ab
set_option linter.unusedSimpArgs false
set_option linter.unusedVariables false
set_option maxRecDepth 100000
set_option linter.defProp false
def c50 := by
 have c := KK_of Tryz.f50 (by conv => lhs; cbv)
 dsimp only [KK, KxP, doO, opO, List.map_cons, List.map_nil, List.toList_toArray] at c
 exact c
theorem b50 : FnIs Tryz.prog 50 Tryz.f50 13 := ⟨Tryz.func50, by kernel_rfl⟩
def c15 := by
 have c := KK_of Tryz.f15 (by conv => lhs; cbv)
 dsimp only [KK, KxP, doO, opO, List.map_cons, List.map_nil, List.toList_toArray] at c
 exact c
theorem b15 : FnIs Tryz.prog 15 Tryz.f15 77 := ⟨Tryz.func15, by kernel_rfl⟩
set_option maxHeartbeats 1000000 in
theorem param_pw {x : PaT} (h : OkPa x) : PW 50 [paV x] fun _ => paT x := by
 intro i t s k B T hin htm hk hb
 obtain ⟨N, hn⟩ : ∃ N, B.length = N := ⟨_, rfl⟩
 obtain ⟨a, ha⟩ : ∃ a, s ++ (x.name ++ [32] ++ typT x.type) = a := ⟨_, rfl⟩
 have hty : paT x = x.name ++ [32] ++ typT x.type := rfl
 dsimp only at hb ⊢
 rw [hty] at hb ⊢
 rw [ha]
 simp only [lnw] at hb
 unfold paV
 refine b50.go 60 rfl fun _ => ?_
 simp only [W, seval, c50, hin, htm, hn, mapD_nil, mapD_cons]
 refine (put2 x.name [32]).callJ hin htm hk ?_ fun s1 h_s1 => ?_
 ·try simp only [lnw]
  omega
 have hl_s1 := congrArg List.length h_s1
 simp only [lnw] at hl_s1
 refine ARun.go 40 ?_
 simp only [W, seval, c50, hin, htm, hn]
 refine (typ_pw h.2).callJ hin htm hk ?_ fun s2 h_s2 => ?_
 ·try simp only [lnw]
  omega
 have hl_s2 := congrArg List.length h_s2
 simp only [lnw] at hl_s2
 refine ARun.go 20 ?_
 simp only [W, seval, c50]
 refine ARun.fin Tryz.func50 rfl (PW.retJ hin htm ?_)
 subst h_s1 h_s2 ha
 exact ⟨rfl, by simp⟩
theorem flT_drop (l : List PaT) (j : Nat) (h : j < l.length) : flT (l.drop j) = [9] ++ paT l[j] ++ [10] ++ flT (l.drop (j + 1)) := by
 rw [List.drop_eq_getElem_cons h, flT]
theorem suTs_drop (l : List SuT) (j : Nat) (h : j < l.length) : suTs (l.drop j) = sutT l[j] ++ suTs (l.drop (j + 1)) := by
 rw [List.drop_eq_getElem_cons h, suTs]
theorem fuTs_drop (l : List FuT) (j : Nat) (h : j < l.length) : fuTs (l.drop j) = fuT l[j] ++ fuTs (l.drop (j + 1)) := by
 rw [List.drop_eq_getElem_cons h, fuTs]
theorem app3w {α : Type} (A : List α) (a b c : α) : A ++ [a, b, c] = (A ++ [a, b]) ++ [c] := by simp
def prL (p : PrT) : List V := [.d (.sl (p.structs.map suD)), .d (.sl (p.funcs.map fuD))]
set_option maxHeartbeats 4000000 in
theorem funcs_run {p : PrT} (hp : OkPr p) {i t N : Nat} {s s0 a : List UInt8} {B : List (List V)} {T : List (Nat × Nat)} (hn : B.length = N) (hin : i < B.length) (htm : t < T.length) (ha : s ++ fuTs p.funcs = a) (hal : a.length ≤ mostW) (hlen : p.funcs.length ≤ 9223372036854775807) :
 ARun Tryz.prog TabI (N, T.length) 15 [.code (kF Tryz.f15 44)] (envS 77 [(0, .ptr i 0), (3, .ptr N 0)]) ⟨B.set i (bxW i t s 0) ++ [prL p], T.set t (s.length, 1)⟩ (Ab.Left ⟨B.set i (bxW i t s0 0), T.set t (s0.length, 1)⟩ (Same (.tup []) ⟨B.set i (bxW i t a 0), T.set t (a.length, 1)⟩)) := by
 have hk : 0 ≤ 900 := by omega
 have hk00 : (((0 : Nat) : Int) ≤ 0 ∧ 0 ≤ 800) := by omega
 have hin' : i < N := by omega
 unfold prL
 refine ARun.go 10 ?_
 simp only [W, seval, c15, hn, hin', hin]
 refine ARun.fits fun hf => ?_
 refine ARun.loopB (fun p' : Nat × List UInt8 => (envS 77 [(0, .ptr i 0), (3, .ptr N 0), (47, .d (.sl (p.funcs.map fuD))), (48, .d (.int .i64 (p.funcs.length : Int))), (49, .d (.int .i64 (p'.1 : Int)))], ⟨B.set i (bxW i t p'.2 0) ++ [[.d (.sl (p.structs.map suD)), .d (.sl (p.funcs.map fuD))]], T.set t (p'.2.length, 1)⟩)) (fun p' => p'.1 ≤ p.funcs.length ∧ p'.2 ++ fuTs (p.funcs.drop p'.1) = a) (fun p' => p.funcs.length - p'.1) (0, s) ⟨by simp, ha⟩ ?_ rfl ?_
 ·skip
  refine Agree.env _ ?_
  simp only [agw, seval, hn]
 rintro ⟨j, s1⟩ ⟨h1, h2⟩ ih
 dsimp only at h1 h2 ih ⊢
 by_cases hlt : j < p.funcs.length
 case neg =>
  have e1 : decide ((j : Int) < (p.funcs.length : Int)) = false := decide_eq_false (by omega)
  rw [List.drop_eq_nil_of_le (by omega), fuTs, List.append_nil] at h2
  subst h2
  refine ARun.go 60 ?_
  simp only [W, seval, c15, e1]
  refine ARun.fin Tryz.func15 rfl (PW.retJ hin htm ?_)
  exact ⟨rfl, rfl⟩
 have e1 : decide ((j : Int) < (p.funcs.length : Int)) = true := decide_eq_true (by omega)
 have hga := List.getElem?_eq_getElem hlt
 have hfx := hp.2 p.funcs[j] (List.getElem_mem hlt)
 rw [fuTs_drop p.funcs j hlt] at h2
 obtain ⟨f, hf'⟩ : ∃ f, p.funcs[j] = f := ⟨_, rfl⟩
 rw [hf'] at hga h2 hfx
 have hfl : (fuT f).length = 6 + f.name.length + 1 + (comT (f.params.map paT)).length + 1 + (2 + (comT (f.results.map typT)).length + 4) + (stTs 1 f.body).length + 2 := by
  unfold fuT
  simp
  omega
 have h2l := congrArg List.length h2
 simp only [lnw] at h2l
 rw [hfl] at h2l
 have hb1 : f.name.length + 6 ≤ 9223372036854775807 := by unfold mostW at hal; omega
 have hb2 : 6 + f.name.length ≤ 9223372036854775807 := by omega
 have hb3 : 6 + f.name.length + 1 ≤ 9223372036854775807 := by unfold mostW at hal; omega
 have hb4 : f.name.length + 6 + 1 ≤ 9223372036854775807 := by omega
 refine ARun.go 60 ?_
 simp only [W, seval, c15, e1, hn, hin', List.getElem?_map, hga, fuD_eq, hb1, hb2, hb3, hb4]
 refine (list_Param_pl (g := 50) (tx := paT) (fun x hx => param_pw (hfx.2.1 x hx)) ([10, 102, 117, 110, 99, 32] ++ f.name ++ [40]) [41]).callJ hin htm hk ?_ fun s2 h_s2 => ?_
 ·try simp only [lnw]
  omega
 have hl_s2 := congrArg List.length h_s2
 simp only [lnw] at hl_s2
 refine ARun.go 40 ?_
 simp only [W, seval, c15, hn, hin', hin]
 refine (list_Type_pl (g := 46) (tx := typT) (fun x hx => typ_pw (hfx.2.2.2.1 x hx)) [32, 40] [41, 32, 123, 10]).callJ hin htm hk ?_ fun s3 h_s3 => ?_
 ·try simp only [lnw]
  omega
 have hl_s3 := congrArg List.length h_s3
 simp only [lnw] at hl_s3
 refine ARun.go 40 ?_
 simp only [W, seval, c15, hn, hin', hin]
 have h01 : (stTs (0 + 1) f.body).length = (stTs 1 f.body).length := rfl
 refine (PWS.block (d := 0) (fun x hx => stmt_ps (hfx.2.2.2.2 x hx))).callJ hin htm hk00 ?_ fun s4 h_s4 => ?_
 ·try simp only [lnw]
  omega
 have hl_s4 := congrArg List.length h_s4
 simp only [lnw] at hl_s4
 refine ARun.go 40 ?_
 simp only [W, seval, c15, hn, hin', mapD_nil, mapD_cons]
 refine (put1 [125, 10]).callJ hin htm hk ?_ fun s5 h_s5 => ?_
 ·try simp only [lnw]
  omega
 have hl_s5 := congrArg List.length h_s5
 simp only [lnw] at hl_s5
 have h5 : s5 ++ fuTs (p.funcs.drop (j + 1)) = a := by rw [← h2, ← h_s5, ← h_s4, ← h_s3, ← h_s2]; simp [fuT]
 have hwj := wrap_in ((j : Int) + 1) (by omega)
 refine ARun.go 60 ?_
 simp only [W, seval, c15, hwj]
 rw [app2]
 refine ih (j + 1, s5) ⟨by dsimp only; omega, h5⟩ (by dsimp only; omega) _ _ _ _ rfl ⟨by simp [hn], by simp⟩ (fitsJ hin htm hf) ?_
 refine AgreeF.env _ ?_
 simp only [agf, seval, hn, htm]
 refine ⟨decide_eq_true ?_, decide_eq_true ?_⟩
 all_goals
  simp only [List.length_append, List.length_set, List.length_cons, List.length_nil, hn]
  omega
theorem flT_len : ∀ l : List PaT, l.length ≤ (flT l).length
 | [] => Nat.zero_le _
 | p :: l => by
  have := flT_len l
  simp only [flT, List.length_append, List.length_cons, List.length_nil]
  omega
set_option maxHeartbeats 8000000 in
theorem structs_run {p : PrT} (hp : OkPr p) {i t N : Nat} {s s0 a : List UInt8} {B : List (List V)} {T : List (Nat × Nat)} (hn : B.length = N) (hin : i < B.length) (htm : t < T.length) (ha : s ++ suTs p.structs ++ fuTs p.funcs = a) (hal : a.length ≤ mostW) (hlen : p.funcs.length ≤ 9223372036854775807) (hlen2 : p.structs.length ≤ 9223372036854775807) :
 ARun Tryz.prog TabI (N, T.length) 15 [.code (kF Tryz.f15 8), .inBlock 0, .code (kF Tryz.f15 44)] (envS 77 [(0, .ptr i 0), (3, .ptr N 0), (14, .d (.sl (p.structs.map suD))), (15, .d (.int .i64 (p.structs.length : Int))), (16, .d (.int .i64 0))]) ⟨B.set i (bxW i t s 0) ++ [prL p], T.set t (s.length, 1)⟩ (Ab.Left ⟨B.set i (bxW i t s0 0), T.set t (s0.length, 1)⟩ (Same (.tup []) ⟨B.set i (bxW i t a 0), T.set t (a.length, 1)⟩)) := by
 have hk : 0 ≤ 900 := by omega
 have hin' : i < N := by omega
 unfold prL
 refine ARun.go 3 ?_
 simp only [W, seval, c15, hn]
 refine ARun.fits fun hf => ?_
 refine ARun.loopB (fun p' : Nat × List UInt8 => (envS 77 [(0, .ptr i 0), (3, .ptr N 0), (14, .d (.sl (p.structs.map suD))), (15, .d (.int .i64 (p.structs.length : Int))), (16, .d (.int .i64 (p'.1 : Int)))], ⟨B.set i (bxW i t p'.2 0) ++ [[.d (.sl (p.structs.map suD)), .d (.sl (p.funcs.map fuD))]], T.set t (p'.2.length, 1)⟩)) (fun p' => p'.1 ≤ p.structs.length ∧ p'.2 ++ suTs (p.structs.drop p'.1) ++ fuTs p.funcs = a) (fun p' => p.structs.length - p'.1) (0, s) ⟨by simp, ha⟩ ?_ rfl ?_
 ·skip
  refine Agree.env _ ?_
  simp only [agw, seval, hn]
 rintro ⟨j, s1⟩ ⟨h1, h2⟩ ih
 dsimp only at h1 h2 ih ⊢
 by_cases hlt : j < p.structs.length
 case neg =>
  have e1 : decide ((j : Int) < (p.structs.length : Int)) = false := decide_eq_false (by omega)
  rw [List.drop_eq_nil_of_le (by omega), suTs, List.append_nil] at h2
  refine ARun.go 7 ?_
  simp only [W, seval, c15, e1]
  refine ARun.weak (env' := envS 77 [(0, .ptr i 0), (3, .ptr N 0)]) ?_ (funcs_run hp hn hin htm h2 hal hlen)
  refine Agree.env _ ?_
  simp only [agw, seval]
 have e1 : decide ((j : Int) < (p.structs.length : Int)) = true := decide_eq_true (by omega)
 have hwj := wrap_in ((j : Int) + 1) (by omega)
 have hga := List.getElem?_eq_getElem hlt
 have hfx := hp.1 p.structs[j] (List.getElem_mem hlt)
 rw [suTs_drop p.structs j hlt] at h2
 obtain ⟨f, hf'⟩ : ∃ f, p.structs[j] = f := ⟨_, rfl⟩
 rw [hf'] at hga h2 hfx
 have hfl : (sutT f).length = 6 + f.name.length + 10 + (flT f.fields).length + 2 := by
  unfold sutT
  simp
  omega
 have h2l := congrArg List.length h2
 simp only [lnw] at h2l
 rw [hfl] at h2l
 have hfll := flT_len f.fields
 have hfl9 : f.fields.length ≤ 9000000000000 := by unfold mostW at hal; omega
 refine ARun.go 60 ?_
 simp only [W, seval, c15, e1, hn, hin', List.getElem?_map, hga, suD_eq, mapD_nil, mapD_cons]
 refine (put3 [10, 116, 121, 112, 101, 32] f.name [32, 115, 116, 114, 117, 99, 116, 32, 123, 10]).callJ hin htm hk ?_ fun s2 h_s2 => ?_
 ·try simp only [lnw]
  omega
 have hl_s2 := congrArg List.length h_s2
 simp only [lnw] at hl_s2
 have h3 : s2 ++ flT f.fields ++ ([125, 10] ++ suTs (p.structs.drop (j + 1)) ++ fuTs p.funcs) = a := by rw [← h2, ← h_s2]; simp [sutT]
 refine ARun.go 40 ?_
 simp only [W, seval, c15, hn, hin', hin]
 refine ARun.fits fun hg => ?_
 refine ARun.loopB (fun p' : Nat × List UInt8 => (envS 77 [(0, .ptr i 0), (3, .ptr N 0), (5, .ptr (N + 1) 0), (14, .d (.sl (p.structs.map suD))), (15, .d (.int .i64 (p.structs.length : Int))), (16, .d (.int .i64 (j : Int))), (26, .d (.sl (f.fields.map paD))), (27, .d (.int .i64 (f.fields.length : Int))), (28, .d (.int .i64 (p'.1 : Int)))], ⟨B.set i (bxW i t p'.2 0) ++ [[.d (.sl (p.structs.map suD)), .d (.sl (p.funcs.map fuD))], [.d (.str f.name), .d (.sl (f.fields.map paD))]], T.set t (p'.2.length, 1)⟩)) (fun p' => p'.1 ≤ f.fields.length ∧ p'.2 ++ flT (f.fields.drop p'.1) ++ ([125, 10] ++ suTs (p.structs.drop (j + 1)) ++ fuTs p.funcs) = a) (fun p' => f.fields.length - p'.1) (0, s2) ⟨by simp, h3⟩ ?_ rfl ?_
 ·skip
  refine Agree.env _ ?_
  simp only [agw, seval, hn]
 rintro ⟨q, s3⟩ ⟨g1, g2⟩ ihq
 dsimp only at g1 g2 ihq ⊢
 by_cases hlq : q < f.fields.length
 case neg =>
  have e2 : decide ((q : Int) < (f.fields.length : Int)) = false := decide_eq_false (by omega)
  rw [List.drop_eq_nil_of_le (by omega), flT, List.append_nil] at g2
  have g2l := congrArg List.length g2
  simp only [lnw] at g2l
  refine ARun.go 60 ?_
  simp only [W, seval, c15, e2, hn, hin', mapD_nil, mapD_cons]
  refine (put1 [125, 10]).callJ hin htm hk ?_ fun s4 h_s4 => ?_
  ·try simp only [lnw]
   omega
  have hl_s4 := congrArg List.length h_s4
  simp only [lnw] at hl_s4
  have h5 : s4 ++ suTs (p.structs.drop (j + 1)) ++ fuTs p.funcs = a := by rw [← g2, ← h_s4]; simp
  refine ARun.go 60 ?_
  simp only [W, seval, c15, hwj]
  rw [app2]
  refine ih (j + 1, s4) ⟨by dsimp only; omega, h5⟩ (by dsimp only; omega) _ _ _ _ rfl ⟨by simp [hn], by simp⟩ (fitsJ hin htm hf) ?_
  refine AgreeF.env _ ?_
  simp only [agf, seval, hn, htm]
  refine ⟨decide_eq_true ?_, decide_eq_true ?_⟩
  all_goals
   simp only [List.length_append, List.length_set, List.length_cons, List.length_nil, hn]
   omega
 have e2 : decide ((q : Int) < (f.fields.length : Int)) = true := decide_eq_true (by omega)
 have hwq := wrap_in ((q : Int) + 1) (by omega)
 have hgq := List.getElem?_eq_getElem hlq
 have hfq := hfx.2 f.fields[q] (List.getElem_mem hlq)
 rw [flT_drop f.fields q hlq] at g2
 obtain ⟨x, hx⟩ : ∃ x, f.fields[q] = x := ⟨_, rfl⟩
 rw [hx] at hgq g2 hfq
 have g2l := congrArg List.length g2
 simp only [lnw] at g2l
 refine ARun.go 60 ?_
 simp only [W, seval, c15, e2, hn, hin', List.getElem?_map, hgq, paD_eq, mapD_nil, mapD_cons]
 refine (put1 [9]).callJ hin htm hk ?_ fun s4 h_s4 => ?_
 ·try simp only [lnw]
  omega
 have hl_s4 := congrArg List.length h_s4
 simp only [lnw] at hl_s4
 refine ARun.go 40 ?_
 simp only [W, seval, c15, hn, hin', hin]
 refine (param_pw hfq).callJ hin htm hk ?_ fun s5 h_s5 => ?_
 ·try simp only [lnw]
  omega
 have hl_s5 := congrArg List.length h_s5
 simp only [lnw] at hl_s5
 refine ARun.go 40 ?_
 simp only [W, seval, c15, hn, hin', mapD_nil, mapD_cons]
 refine (put1 [10]).callJ hin htm hk ?_ fun s6 h_s6 => ?_
 ·try simp only [lnw]
  omega
 have hl_s6 := congrArg List.length h_s6
 simp only [lnw] at hl_s6
 have h7 : s6 ++ flT (f.fields.drop (q + 1)) ++ ([125, 10] ++ suTs (p.structs.drop (j + 1)) ++ fuTs p.funcs) = a := by rw [← g2, ← h_s6, ← h_s5, ← h_s4]; simp
 refine ARun.go 60 ?_
 simp only [W, seval, c15, hwq]
 rw [app3w]
 refine ihq (q + 1, s6) ⟨by dsimp only; omega, h7⟩ (by dsimp only; omega) _ _ _ _ rfl ⟨by simp [hn], by simp⟩ (fitsJ hin htm hg) ?_
 refine AgreeF.env _ ?_
 simp only [agf, seval, hn, htm]
 refine ⟨decide_eq_true ?_, decide_eq_true ?_, decide_eq_true ?_⟩
 all_goals
  simp only [List.length_append, List.length_set, List.length_cons, List.length_nil, hn]
  omega
set_option maxHeartbeats 4000000 in
theorem prog_pk {p : PrT} (hp : OkPr p) : PK (fun k => k = 0) 15 [prV p] fun _ => prT' p := by
 intro i t s k B T hin htm hk0 hb
 obtain rfl : k = 0 := hk0
 have hk : 0 ≤ 900 := by omega
 obtain ⟨N, hn⟩ : ∃ N, B.length = N := ⟨_, rfl⟩
 have hin' : i < N := by omega
 have hty : prT' p = [112, 97, 99, 107, 97, 103, 101, 32, 112, 10] ++ suTs p.structs ++ fuTs p.funcs := rfl
 dsimp only at hb ⊢
 rw [hty] at hb ⊢
 obtain ⟨a, ha⟩ : ∃ a, s ++ ([112, 97, 99, 107, 97, 103, 101, 32, 112, 10] ++ suTs p.structs ++ fuTs p.funcs) = a := ⟨_, rfl⟩
 rw [ha]
 have hal : a.length ≤ mostW := by
  rw [← ha]
  simpa using hb
 simp only [lnw] at hb
 unfold prV
 refine b15.go 20 rfl fun hsm => ?_
 simp only [smw] at hsm
 simp only [W, seval, c15, hin, htm, hn, mapD_nil, mapD_cons]
 refine (put1 [112, 97, 99, 107, 97, 103, 101, 32, 112, 10]).callJ hin htm hk ?_ fun s1 h_s1 => ?_
 ·try simp only [lnw]
  omega
 have hl_s1 := congrArg List.length h_s1
 simp only [lnw] at hl_s1
 have h1 : s1 ++ suTs p.structs ++ fuTs p.funcs = a := by rw [← ha, ← h_s1]; simp
 refine ARun.go 10 ?_
 simp only [W, seval, c15, hin, htm, hn, hin']
 refine ARun.weak (env' := envS 77 [(0, .ptr i 0), (3, .ptr N 0), (14, .d (.sl (p.structs.map suD))), (15, .d (.int .i64 (p.structs.length : Int))), (16, .d (.int .i64 0))]) ?_ (structs_run hp hn hin htm h1 hal (by omega) (by omega))
 refine Agree.env _ ?_
 simp only [agw, seval]
theorem rows2 (i : Int) (b : List StT) : [D.int .u64 i, .sl (b.map stD)] = caD (.mk i b) := (caD_eq (.mk i b)).symm
theorem AFn.bodyN {P : Program} {I : Inv} {fn : FuncId} {f : Func} {body : Code} {args : List V} {S : Mem} {R : V → Mem → Prop} (n : Nat) (hf : P.funcs[fn]? = some f) (hb : f.body = some body) (hname : (f.name == "runtime.NumGoroutine") = false) (hn : f.ntmps = n) (hl : args.length ≤ n)
 (h : ARun P I (S.boxes.length, S.toks.length) fn [.code body] (envS n (numbered 0 args)) S R) : AFn P I fn args S R :=
 AFn.enter hf hb hname (by rw [hn, envS_args n args hl]; exact h)
def c9 := by
 have c := KK_of Tryz.f9 (by conv => lhs; cbv)
 dsimp only [KK, KxP, doO, opO, List.map_cons, List.map_nil, List.toList_toArray] at c
 exact c
theorem b9 : FnIs Tryz.prog 9 Tryz.f9 56 := ⟨Tryz.func9, by kernel_rfl⟩
section
variable {bs : List UInt8} {f : FuncId} {ar : List V} {s s' : Ps} {v : V} {N : Nat} {B : List (List V)} {T : List (Nat × Nat)} {Z O : List V} {env : List V}
end
def c82 := by
 have c := KK_of Tryz.f82 (by conv => lhs; cbv)
 dsimp only [KK, KxP, doO, opO, List.map_cons, List.map_nil, List.toList_toArray] at c
 exact c
theorem b82 : FnIs Tryz.prog 82 Tryz.f82 8 := ⟨Tryz.func82, by kernel_rfl⟩
def c48 := by
 have c := KK_of Tryz.f48 (by conv => lhs; cbv)
 dsimp only [KK, KxP, doO, opO, List.map_cons, List.map_nil, List.toList_toArray] at c
 exact c
theorem b48 : FnIs Tryz.prog 48 Tryz.f48 80 := ⟨Tryz.func48, by kernel_rfl⟩
def c14 := by
 have c := KK_of Tryz.f14 (by conv => lhs; cbv)
 dsimp only [KK, KxP, doO, opO, List.map_cons, List.map_nil, List.toList_toArray] at c
 exact c
theorem b14 : FnIs Tryz.prog 14 Tryz.f14 6 := ⟨Tryz.func14, by kernel_rfl⟩
set_option maxHeartbeats 1000000 in
theorem prog1_ab (x : TyT) (a c : Nat) (p : Int) (B : List (List V)) (T : List (Nat × Nat)) (hB : B[c]? = some [.d (.int .i64 p)]) (ha : B[a]? = some [.ptr c 0]) (hp : 0 ≤ p ∧ p ≤ 60000) :
 AFn Tryz.prog TabI 82 [tyV x, .ptr a 0] ⟨B, T⟩ (Same (.d (.bool (!(tyS identS x 0 p).1))) ⟨B.set c [.d (.int .i64 (tyS identS x 0 p).2)], T⟩) := by
 obtain ⟨N, hn⟩ : ∃ N, B.length = N := ⟨_, rfl⟩
 have hc := (List.getElem?_eq_some_iff.1 hB).1
 have hi : c < N := by omega
 have hia : a < N := by have := (List.getElem?_eq_some_iff.1 ha).1; omega
 have h := typ_ab x c 0 p (B ++ [[.d (.int .i64 x.kind), .d (.str x.name), .d (.sl (x.elem.map tyD))]]) T (by rw [bx_old hc]; exact hB) hp (by omega)
 unfold tyV at h ⊢
 refine b82.go 100 rfl fun hsm => ?_
 simp only [smw] at hsm
 simp only [W, seval, c82, hn, hi, hia, ha]
 refine callS_fn (h) ?_
 rintro _ _ ⟨rfl, rfl⟩
 refine ARun.go 100 ?_
 simp only [W, seval, c82, hn, hi, hia, ha]
 refine ARun.ret Tryz.func82 rfl (Left.set (by rfl) ?_)
 (try clear ih)
 (try simp only [dnw] at *)
 simp only [fnw, seval, Same] <;> simp [*]
 skip
theorem ty_good (a c : Nat) (B X : List (List V)) (T : List (Nat × Nat)) (hc : c < B.length) (ha : ∀ q : Int, (B.set c [.d (.int .i64 q)] ++ X)[a]? = some [.ptr c 0]) :
 ∀ (l : List TyT) (q : Int), 0 ≤ q ∧ q ≤ 60000 → Good Tryz.prog TabI 82 [] [.ptr a 0] tyV (fun q : Int => ⟨B.set c [.d (.int .i64 q)] ++ X, T⟩) (fun x q => (!(tyS identS x 0 q).1, (tyS identS x 0 q).2)) l q
 | [], _, _ => trivial
 | x :: l, q, hq => by
  have hcx : c < (B.set c [.d (.int .i64 q)]).length := by simpa using hc
  refine ⟨?_, fun h => ?_⟩
  ·have := prog1_ab x a c q (B.set c [.d (.int .i64 q)] ++ X) T (by rw [bx_old hcx]; exact bx_get hc) (ha q) hq
   rw [bx_set_old hcx, List.set_set] at this
   exact this
  ·have h : (tyS identS x 0 q).1 = true := by simpa using h
   have h1 := tyS_ok identS x 0 q h
   exact ty_good a c B X T hc ha l _ ⟨Int.le_trans hq.1 (by dsimp only; omega), h1.2⟩
theorem app3 {α : Type} (A : List α) (a b c : α) : A ++ [a, b, c] = (A ++ [a, b]) ++ [c] := by simp
set_option maxHeartbeats 4000000 in
theorem prog_ab (n : Nat) (pr : PrT) (hst : ∀ f ∈ pr.funcs, ∀ x ∈ f.body, StmtOk n x) (c : Nat) (p : Int) (B : List (List V)) (T : List (Nat × Nat)) (hB : B[c]? = some [.d (.int .i64 p)]) (hp : 0 ≤ p ∧ p ≤ 60000) :
 AFn Tryz.prog TabI 48 [.ptr c 0, prV pr] ⟨B, T⟩ (Same (.d (.bool (prS n pr p).1)) ⟨B.set c [.d (.int .i64 (prS n pr p).2)], T⟩) := by
 obtain ⟨N, hn⟩ : ∃ N, B.length = N := ⟨_, rfl⟩
 have hc := (List.getElem?_eq_some_iff.1 hB).1
 have hi : c < N := by omega
 have hi1 : c < N + 2 := by omega
 have hN1 : N < N + 2 := by omega
 have hN2 : N + 1 < N + 2 := by omega
 have hbs : B.set c [.d (.int .i64 p)] = B := by
  obtain ⟨_, h⟩ := List.getElem?_eq_some_iff.1 hB
  rw [← h, List.set_getElem_self]
 generalize hres : prS n pr p = res
 change andS (rowS suS pr.structs) (rowS (fuS n) pr.funcs) p = res at hres
 unfold prV
 refine b48.go 7 rfl fun hsm => ?_
 simp only [smw] at hsm
 simp only [W, seval, c48, hn, hi]
 refine ARun.join (fun q : Int => (envS 80 [(2, .ptr N 0), (3, .ptr (N + 1) 0), (4, .d (.bool false))], ⟨B.set c [.d (.int .i64 q)] ++ [[.ptr c 0], [.d (.sl (pr.structs.map suD)), .d (.sl (pr.funcs.map fuD))]], T⟩)) (fun q => (0 ≤ q ∧ q ≤ 60000) ∧ rowS (fuS n) pr.funcs q = res) ?_ ?_
 rotate_left
 ·intro K' hK
  refine ARun.goJ 30 ?_
  simp only [W, seval, c48, hn, hi]
  refine ARun.fits fun hf => ?_
  have hf2 : ∀ q' : Int, Fits ⟨B.set c [.d (.int .i64 q')] ++ [[.ptr c 0], [.d (.sl (pr.structs.map suD)), .d (.sl (pr.funcs.map fuD))]], T⟩ := fun q' => by
   have := hf.set (i := c) (vs := [.d (.int .i64 q')]) rfl
   rwa [bx_set_old (by omega)] at this
  refine ARun.loopB (fun a : Nat × Int => (envS 80 [(2, .ptr N 0), (3, .ptr (N + 1) 0), (4, .d (.bool false)), (10, .d (.sl (pr.structs.map suD))), (11, .d (.int .i64 pr.structs.length)), (12, .d (.int .i64 a.1))], ⟨B.set c [.d (.int .i64 a.2)] ++ [[.ptr c 0], [.d (.sl (pr.structs.map suD)), .d (.sl (pr.funcs.map fuD))]], T⟩)) (fun a => a.1 ≤ pr.structs.length ∧ (0 ≤ a.2 ∧ a.2 ≤ 60000) ∧ andS (rowS suS (pr.structs.drop a.1)) (rowS (fuS n) pr.funcs) a.2 = res) (fun a => pr.structs.length - a.1) (0, p) ⟨by omega, hp, hres⟩ ?_ (by rw [hbs]) ?_
  ·skip
   refine Agree.env _ ?_
   simp only [agw, seval, hn]
  rintro ⟨i, q⟩ ⟨h1, h2, h3⟩ ih
  dsimp only at h1 h2 h3 ih ⊢
  by_cases hlt : i < pr.structs.length
  ·have hw := wrap_in ((i : Int) + 1) (by omega)
   have hg := List.getElem?_eq_getElem hlt
   have hlt' : decide ((i : Int) < (pr.structs.length : Int)) = true := decide_eq_true (by omega)
   rw [drop_get hlt] at h3
   obtain ⟨x, hx⟩ : ∃ x, pr.structs[i] = x := ⟨_, rfl⟩
   rw [hx] at hg h3
   change andS (andS (suS x) (rowS suS (pr.structs.drop (i + 1)))) (rowS (fuS n) pr.funcs) q = res at h3
   rw [andS_assoc] at h3
   change andS (andS (partS 0) (andS (allowS (identS x.name)) (paS 60 x.fields))) _ q = res at h3
   rw [andS_assoc] at h3
   have hpar := params_ab 60 (by omega) x.fields c
   have hcast : ((60 : Nat) : Int) = 60 := rfl
   rw [hcast] at hpar
   refine ARun.goJ 100 ?_
   simp only [W, seval, c48, hn, hi, List.getElem?_map, hg, hlt', suD]
   refine callS_fn (part_ab c 0 q _ _ (by rw [bx_old (by simp; omega)]; exact bx_get hc) h2) ?_
   rintro _ _ ⟨rfl, rfl⟩
   refine ARun.goK 200 ?_
   simp only [W, seval, c48, hn, hi]
   cases hk : partOk 0 q
   ·rw [andS_no (show (partS 0 q).1 = false from hk)] at h3
    simp only [W, seval, c48, hn, hi, hk]
    refine ARun.ret Tryz.func48 rfl (Left.set (by rfl) ?_)
    rw [← h3]
    (try clear ih)
    (try simp only [dnw] at *)
    simp only [fnw, seval, Same] <;> simp [*]
    rfl
   have hpo := partOk_in hk
   rw [andS_yes (show (partS 0 q).1 = true from hk)] at h3
   change andS _ _ (q + 1) = res at h3
   rw [andS_assoc] at h3
   simp only [W, seval, c48, hn, hi, hk]
   refine callS_fn (ident_ab x.name _) ?_
   rintro _ _ ⟨rfl, rfl⟩
   refine ARun.goK 200 ?_
   simp only [W, seval, c48, hn, hi]
   cases hid : identS x.name
   ·rw [andS_no (by rw [hid]; rfl)] at h3
    simp only [W, seval, c48, hn, hi]
    refine ARun.ret Tryz.func48 rfl (Left.set (by rfl) ?_)
    rw [← h3]
    (try clear ih)
    (try simp only [dnw] at *)
    simp only [fnw, seval, Same] <;> simp [*]
    rfl
   rw [andS_yes (by rw [hid]; rfl)] at h3
   change andS _ _ (q + 1) = res at h3
   simp only [W, seval, c48, hn, hi]
   refine callS_fn (hpar (q + 1) _ T (by rw [bx_old (by simp; omega)]; exact bx_get hc) ⟨by omega, hpo.1⟩) ?_
   rintro _ _ ⟨rfl, rfl⟩
   have hup := (Cnts.pa 60 x.fields).up (q + 1)
   have hbn := Bnds.pa 60 x.fields (q + 1) hpo.1
   obtain ⟨⟨b, r⟩, hpa⟩ : ∃ z, paS 60 x.fields (q + 1) = z := ⟨_, rfl⟩
   rw [hpa] at hup hbn
   refine ARun.goK 200 ?_
   simp only [W, seval, c48, hn, hi, hpa]
   cases b
   ·rw [andS_no (by rw [hpa]), hpa] at h3
    simp only [W, seval, c48, hn, hi]
    refine ARun.ret Tryz.func48 rfl (Left.set (by rfl) ?_)
    rw [← h3]
    (try clear ih)
    (try simp only [dnw] at *)
    simp only [fnw, seval, Same] <;> simp [*]
    skip
   ·rw [andS_yes (by rw [hpa]), hpa] at h3
    have hup := hup rfl
    have hbn := hbn rfl
    dsimp only at hup hbn h3
    simp only [W, seval, c48, hn, hi, hw]
    rw [app3]
    refine ih (i + 1, r) ⟨hlt, ⟨by dsimp only; omega, hbn⟩, h3⟩ (by dsimp only; omega) _ _ _ _ rfl ⟨by simp; omega, Nat.le_refl _⟩ (hf2 r) ?_
    refine AgreeF.env _ ?_
    simp only [agf, seval, hn, List.length_append, List.length_cons, List.length_nil, Nat.zero_add, Nat.reduceAdd, hN1, hN2]
  ·have hlt' : decide ((i : Int) < (pr.structs.length : Int)) = false := decide_eq_false (by omega)
   rw [List.drop_eq_nil_of_le (by omega), andS_yes rfl] at h3
   refine ARun.goK 100 (k := [_, _, _]) (K := K') ?_
   simp only [W, seval, c48, hn, hi, hlt']
   refine hK q ⟨h2, h3⟩ _ _ ?_ rfl
   refine Agree.env _ ?_
   simp only [agw, seval, hn]
 ·rintro q0 ⟨hq0, hres2⟩
  clear hres hbs
  dsimp only
  refine ARun.go 20 ?_
  simp only [W, seval, c48, hn, hi]
  refine ARun.fits fun hf => ?_
  have hf2 : ∀ q' : Int, Fits ⟨B.set c [.d (.int .i64 q')] ++ [[.ptr c 0], [.d (.sl (pr.structs.map suD)), .d (.sl (pr.funcs.map fuD))]], T⟩ := fun q' => by
   have := hf.set (i := c) (vs := [.d (.int .i64 q')]) rfl
   rwa [bx_set_old (by simp; omega), List.set_set] at this
  refine ARun.loopB (fun a : Nat × Int => (envS 80 [(2, .ptr N 0), (3, .ptr (N + 1) 0), (4, .d (.bool false)), (34, .d (.sl (pr.funcs.map fuD))), (35, .d (.int .i64 pr.funcs.length)), (36, .d (.int .i64 a.1))], ⟨B.set c [.d (.int .i64 a.2)] ++ [[.ptr c 0], [.d (.sl (pr.structs.map suD)), .d (.sl (pr.funcs.map fuD))]], T⟩)) (fun a => a.1 ≤ pr.funcs.length ∧ (0 ≤ a.2 ∧ a.2 ≤ 60000) ∧ rowS (fuS n) (pr.funcs.drop a.1) a.2 = res) (fun a => pr.funcs.length - a.1) (0, q0) ⟨by omega, hq0, hres2⟩ ?_ rfl ?_
  ·skip
   refine Agree.env _ ?_
   simp only [agw, seval, hn]
  rintro ⟨i, q⟩ ⟨h1, h2, h3⟩ ih
  dsimp only at h1 h2 h3 ih ⊢
  by_cases hlt : i < pr.funcs.length
  ·have hw := wrap_in ((i : Int) + 1) (by omega)
   have hg := List.getElem?_eq_getElem hlt
   have hlt' : decide ((i : Int) < (pr.funcs.length : Int)) = true := decide_eq_true (by omega)
   rw [drop_get hlt] at h3
   obtain ⟨x, hx⟩ : ∃ x, pr.funcs[i] = x := ⟨_, rfl⟩
   have hxm : x ∈ pr.funcs := by rw [← hx]; exact List.getElem_mem hlt
   rw [hx] at hg h3
   change andS (andS (partS 0) (andS (allowS (identS x.name)) (andS (paS 20 x.params) (andS (allowS (decide (1 ≤ x.results.length) && decide (x.results.length ≤ 20))) (andS (rowS (fun t p => tyS identS t 0 p) x.results) (rowS (fun s => stS n s 0) x.body)))))) (rowS (fuS n) (pr.funcs.drop (i + 1))) q = res at h3
   rw [andS_assoc] at h3
   have hpar := params_ab 20 (by omega) x.params c
   have hcast : ((20 : Nat) : Int) = 20 := rfl
   rw [hcast] at hpar
   refine ARun.go 100 ?_
   simp only [W, seval, c48, hn, hi, List.getElem?_map, hg, hlt', fuD]
   refine callS_fn (part_ab c 0 q _ _ (by rw [bx_old (by simp; omega)]; exact bx_get hc) h2) ?_
   rintro _ _ ⟨rfl, rfl⟩
   refine ARun.go 200 ?_
   simp only [W, seval, c48, hn, hi]
   cases hk : partOk 0 q
   ·rw [andS_no (show (partS 0 q).1 = false from hk)] at h3
    simp only [W, seval, c48, hn, hi, hk]
    refine ARun.ret Tryz.func48 rfl (Left.set (by rfl) ?_)
    rw [← h3]
    (try clear ih)
    (try simp only [dnw] at *)
    simp only [fnw, seval, Same] <;> simp [*]
    rfl
   have hpo := partOk_in hk
   rw [andS_yes (show (partS 0 q).1 = true from hk)] at h3
   change andS _ _ (q + 1) = res at h3
   rw [andS_assoc] at h3
   simp only [W, seval, c48, hn, hi, hk]
   refine callS_fn (ident_ab x.name _) ?_
   rintro _ _ ⟨rfl, rfl⟩
   refine ARun.go 200 ?_
   simp only [W, seval, c48, hn, hi]
   cases hid : identS x.name
   ·rw [andS_no (by rw [hid]; rfl)] at h3
    simp only [W, seval, c48, hn, hi]
    refine ARun.ret Tryz.func48 rfl (Left.set (by rfl) ?_)
    rw [← h3]
    (try clear ih)
    (try simp only [dnw] at *)
    simp only [fnw, seval, Same] <;> simp [*]
    rfl
   rw [andS_yes (by rw [hid]; rfl)] at h3
   change andS _ _ (q + 1) = res at h3
   rw [andS_assoc] at h3
   simp only [W, seval, c48, hn, hi]
   refine callS_fn (hpar (q + 1) _ T (by rw [bx_old (by simp; omega)]; exact bx_get hc) ⟨by omega, hpo.1⟩) ?_
   rintro _ _ ⟨rfl, rfl⟩
   have hup := (Cnts.pa 20 x.params).up (q + 1)
   have hbn := Bnds.pa 20 x.params (q + 1) hpo.1
   obtain ⟨⟨b, r⟩, hpa⟩ : ∃ z, paS 20 x.params (q + 1) = z := ⟨_, rfl⟩
   rw [hpa] at hup hbn
   refine ARun.go 200 ?_
   simp only [W, seval, c48, hn, hi, hpa]
   cases b
   ·rw [andS_no (by rw [hpa]), hpa] at h3
    simp only [W, seval, c48, hn, hi]
    refine ARun.ret Tryz.func48 rfl (Left.set (by rfl) ?_)
    rw [← h3]
    (try clear ih)
    (try simp only [dnw] at *)
    simp only [fnw, seval, Same] <;> simp [*]
    skip
   rw [andS_yes (by rw [hpa]), hpa] at h3
   have hup := hup rfl
   have hbn := hbn rfl
   dsimp only at hup hbn h3
   rw [andS_assoc] at h3
   by_cases hlo : 1 ≤ x.results.length
   case neg =>
    have e1 : decide ((x.results.length : Int) < 1) = true := decide_eq_true (by omega)
    rw [andS_no (by rw [decide_eq_false hlo]; rfl)] at h3
    simp only [W, seval, c48, hn, hi, e1]
    refine ARun.ret Tryz.func48 rfl (Left.set (by rfl) ?_)
    rw [← h3]
    (try clear ih)
    (try simp only [dnw] at *)
    simp only [fnw, seval, Same] <;> simp [*]
    rfl
   have e1 : decide ((x.results.length : Int) < 1) = false := decide_eq_false (by omega)
   by_cases hhi : x.results.length ≤ 20
   case neg =>
    have e2 : decide ((20 : Int) < (x.results.length : Int)) = true := decide_eq_true (by omega)
    rw [andS_no (by rw [decide_eq_false hhi, Bool.and_false]; rfl)] at h3
    simp only [W, seval, c48, hn, hi, e1, e2]
    refine ARun.ret Tryz.func48 rfl (Left.set (by rfl) ?_)
    rw [← h3]
    (try clear ih)
    (try simp only [dnw] at *)
    simp only [fnw, seval, Same] <;> simp [*]
    rfl
   have e2 : decide ((20 : Int) < (x.results.length : Int)) = false := decide_eq_false (by omega)
   rw [andS_yes (by rw [decide_eq_true hlo, decide_eq_true hhi]; rfl)] at h3
   change andS _ _ r = res at h3
   rw [andS_assoc] at h3
   simp only [W, seval, c48, hn, hi, e1, e2]
   have hgd := ty_good N c B [[.ptr c 0], [.d (.sl (pr.structs.map suD)), .d (.sl (pr.funcs.map fuD))], [.d (.str x.name), .d (.sl (x.params.map paD)), .d (.sl (x.results.map tyD)), .d (.sl (x.body.map stD))]] T hc (fun q => by rw [bx_loc0 (by simpa using hn)]; rfl) x.results r ⟨by omega, hbn⟩
   have hcf := containsFunc_Type 82 [] [.ptr N 0] (fun q : Int => ⟨B.set c [.d (.int .i64 q)] ++ [[.ptr c 0], [.d (.sl (pr.structs.map suD)), .d (.sl (pr.funcs.map fuD))], [.d (.str x.name), .d (.sl (x.params.map paD)), .d (.sl (x.results.map tyD)), .d (.sl (x.body.map stD))]], T⟩) (fun x q => (!(tyS identS x 0 q).1, (tyS identS x 0 q).2)) (fun _ _ => ⟨by simp, rfl⟩) x.results (by omega) r hgd
   rw [anyF_row (fun x => tyS identS x 0)] at hcf
   refine callS_fn hcf ?_
   rintro _ _ ⟨rfl, rfl⟩
   have hup2 := (Cnts.row (f := fun t p => tyS identS t 0 p) (c := tcS) x.results fun t _ => Cnts.ty t 0).up r
   have hbn2 := Bnds.row (f := fun t p => tyS identS t 0 p) (fun t => Bnds.ty t 0) x.results r hbn
   obtain ⟨⟨b, r2⟩, hty⟩ : ∃ z, rowS (fun t p => tyS identS t 0 p) x.results r = z := ⟨_, rfl⟩
   rw [hty] at hup2 hbn2
   refine ARun.go 200 ?_
   simp only [W, seval, c48, hn, hi, hty]
   cases b
   ·rw [andS_no (by rw [hty]), hty] at h3
    simp only [W, seval, c48, hn, hi]
    refine ARun.ret Tryz.func48 rfl (Left.set (by rfl) ?_)
    rw [← h3]
    (try clear ih)
    (try simp only [dnw] at *)
    simp only [fnw, seval, Same] <;> simp [*]
    skip
   rw [andS_yes (by rw [hty]), hty] at h3
   have hup2 := hup2 rfl
   have hbn2 := hbn2 rfl
   dsimp only at hup2 hbn2 h3
   simp only [W, seval, c48, hn, hi]
   refine callS_fn (stmts_ab n x.body (hst x hxm) c 0 r2 _ T (by rw [bx_old (by simp; omega)]; exact bx_get hc) ⟨by omega, hbn2⟩ ⟨by omega, by omega⟩) ?_
   rintro _ _ ⟨rfl, rfl⟩
   have hup3 := (Cnts.row (f := fun s => stS n s 0) (c := stC n) x.body fun y _ => Cnts.st n y 0).up r2
   have hbn3 := Bnds.row (f := fun s => stS n s 0) (fun y => Bnds.st n y 0) x.body r2 hbn2
   obtain ⟨⟨b, r3⟩, hst3⟩ : ∃ z, rowS (fun s => stS n s 0) x.body r2 = z := ⟨_, rfl⟩
   rw [hst3] at hup3 hbn3
   refine ARun.go 200 ?_
   simp only [W, seval, c48, hn, hi, hst3]
   cases b
   ·rw [andS_no (by rw [hst3]), hst3] at h3
    simp only [W, seval, c48, hn, hi]
    refine ARun.ret Tryz.func48 rfl (Left.set (by rfl) ?_)
    rw [← h3]
    (try clear ih)
    (try simp only [dnw] at *)
    simp only [fnw, seval, Same] <;> simp [*]
    skip
   rw [andS_yes (by rw [hst3]), hst3] at h3
   have hup3 := hup3 rfl
   have hbn3 := hbn3 rfl
   dsimp only at hup3 hbn3 h3
   simp only [W, seval, c48, hn, hi, hw]
   rw [app3]
   refine ih (i + 1, r3) ⟨hlt, ⟨by dsimp only; omega, hbn3⟩, h3⟩ (by dsimp only; omega) _ _ _ _ rfl ⟨by simp; omega, Nat.le_refl _⟩ (hf2 r3) ?_
   refine AgreeF.env _ ?_
   simp only [agf, seval, hn, List.length_append, List.length_cons, List.length_nil, Nat.zero_add, Nat.reduceAdd, hN1, hN2]
  ·have hlt' : decide ((i : Int) < (pr.funcs.length : Int)) = false := decide_eq_false (by omega)
   rw [List.drop_eq_nil_of_le (by omega)] at h3
   refine ARun.go 100 ?_
   simp only [W, seval, c48, hn, hi, hlt']
   refine ARun.ret Tryz.func48 rfl (Left.set (by rfl) ?_)
   rw [← h3]
   (try clear ih)
   (try simp only [dnw] at *)
   simp only [fnw, seval, Same] <;> simp [*]
   rw [← h3]
   exact ⟨rfl, rfl⟩
set_option maxHeartbeats 1000000 in
theorem right_ab (n : Nat) (pr : PrT) (hst : ∀ f ∈ pr.funcs, ∀ x ∈ f.body, StmtOk n x) (B : List (List V)) (T : List (Nat × Nat)) :
 AFn Tryz.prog TabI 14 [prV pr] ⟨B, T⟩ (Same (.d (.bool (prS n pr 0).1)) ⟨B, T⟩) := by
 obtain ⟨N, hn⟩ : ∃ N, B.length = N := ⟨_, rfl⟩
 have h := prog_ab n pr hst (N + 1) 0 (B ++ [[.d (.sl (pr.structs.map suD)), .d (.sl (pr.funcs.map fuD))], [.d (.int .i64 0)]]) T (by rw [bx_loc hn]; rfl) (by omega)
 unfold prV at h ⊢
 refine b14.go 100 rfl fun hsm => ?_
 simp only [smw] at hsm
 simp only [W, seval, c14, hn]
 refine callS_fn h ?_
 rintro _ _ ⟨rfl, rfl⟩
 refine ARun.go 100 ?_
 simp only [W, seval, c14, hn]
 refine ARun.ret Tryz.func14 rfl (Left.box ?_)
 (try clear ih)
 (try simp only [dnw] at *)
 simp only [fnw, seval, Same] <;> simp [*]
 skip
def c43 := by
 have c := KK_of Tryz.f43 (by conv => lhs; cbv)
 dsimp only [KK, KxP, doO, opO, List.map_cons, List.map_nil, List.toList_toArray] at c
 exact c
theorem b43 : FnIs Tryz.prog 43 Tryz.f43 6 := ⟨Tryz.func43, by kernel_rfl⟩
set_option maxHeartbeats 4000000 in
theorem exprG_ab (x : ExT) (B : List (List V)) (T : List (Nat × Nat)) : AFn Tryz.prog TabI 43 [exV x] ⟨B, T⟩ (Same (.d (.bool (exS x 0 0).1)) ⟨B, T⟩) := by
 obtain ⟨N, hn⟩ : ∃ N, B.length = N := ⟨_, rfl⟩
 have h := expr_ab x (N + 1) 0 0 (B ++ [[.d (.int .i64 x.kind), .d (.str x.text), .d (.int .u64 x.int), .d (.int .i64 x.type.kind), .d (.str x.type.name), .d (.sl (x.type.elem.map tyD)), .d (.sl (ssD x.names)), .d (.sl (x.kids.map exD))], [.d (.int .i64 0)]]) T (by rw [bx_loc hn]; rfl) (by omega) (by omega)
 unfold exV at h ⊢
 refine b43.go 100 rfl fun hsm => ?_
 simp only [smw] at hsm
 simp only [W, seval, c43, hn]
 refine callS_fn h ?_
 rintro _ _ ⟨rfl, rfl⟩
 refine ARun.go 100 ?_
 simp only [W, seval, c43, hn]
 refine ARun.ret Tryz.func43 rfl (Left.box ?_)
 (try clear ih)
 (try simp only [dnw] at *)
 simp only [fnw, seval, Same] <;> simp [*]
 skip
noncomputable def rgP (p : PrT) : Bool := (prS (SizeOf.sizeOf p.funcs) p 0).1
theorem rgP_ab (p : PrT) (B : List (List V)) (T : List (Nat × Nat)) : AFn Tryz.prog TabI 14 [prV p] ⟨B, T⟩ (Same (.d (.bool (rgP p))) ⟨B, T⟩) := by
 refine right_ab (SizeOf.sizeOf p.funcs) p (fun f hf x hx => stmt_ab _ x (Dp.of_size _ x ?_)) B T
 have h1 := List.sizeOf_lt_of_mem hf
 have h2 := List.sizeOf_lt_of_mem hx
 have h3 : SizeOf.sizeOf f.body < SizeOf.sizeOf f := by cases f; simp only [FuT.mk.sizeOf_spec]; omega
 omega
def c16 := by
 have c := KK_of Tryz.f16 (by conv => lhs; cbv)
 dsimp only [KK, KxP, doO, opO, List.map_cons, List.map_nil, List.toList_toArray] at c
 exact c
theorem b16 : FnIs Tryz.prog 16 Tryz.f16 14 := ⟨Tryz.func16, by kernel_rfl⟩
def c7 := by
 have c := KK_of Tryz.f7 (by conv => lhs; cbv)
 dsimp only [KK, KxP, doO, opO, List.map_cons, List.map_nil, List.toList_toArray] at c
 exact c
theorem b7 : FnIs Tryz.prog 7 Tryz.f7 17 := ⟨Tryz.func7, by kernel_rfl⟩
def c12 := by
 have c := KK_of Tryz.f12 (by conv => lhs; cbv)
 dsimp only [KK, KxP, doO, opO, List.map_cons, List.map_nil, List.toList_toArray] at c
 exact c
theorem b12 : FnIs Tryz.prog 12 Tryz.f12 17 := ⟨Tryz.func12, by kernel_rfl⟩
def c13 := by
 have c := KK_of Tryz.f13 (by conv => lhs; cbv)
 dsimp only [KK, KxP, doO, opO, List.map_cons, List.map_nil, List.toList_toArray] at c
 exact c
theorem b13 : FnIs Tryz.prog 13 Tryz.f13 16 := ⟨Tryz.func13, by kernel_rfl⟩
def outT (s : List UInt8) : List UInt8 × Int := if 400000 < s.length then ([], 3) else (s, 0)
theorem done_ab {b0 : List V} {s : List UInt8} (hs : s ≠ []) (hl : s.length ≤ mostW) : AFn Tryz.prog TabI 16 [.ptr 1 0] ⟨[b0, bxW 1 0 s 0], [(s.length, 1)]⟩ fun v m => v = .tup [.d (.sl (byD (outT s).1)), .d (.int .i64 (outT s).2)] ∧ ∃ k', m = ⟨[b0, bxW 1 0 s 0], [(k', 1)]⟩ := by
 unfold mostW at hl
 have hlen : AFn Tryz.prog TabI 54 [.ptr 1 0] ⟨[b0, bxW 1 0 s 0], [(s.length, 1)]⟩ (Same (.d (.int .i64 (s.length : Int))) ⟨[b0, bxW 1 0 s 0], [(s.length, 1)]⟩) := len_ab (B := [b0, []]) (T := [(s.length, 1)]) (i := 1) (t := 0) (k := 0) (s := s) (by simp)
 unfold outT
 by_cases hc : 400000 < s.length
 ·have e1 : decide ((400000 : Int) < (s.length : Int)) = true := decide_eq_true (by omega)
  rw [if_pos hc]
  refine b16.go 20 rfl fun hsm => ?_
  simp only [smw] at hsm
  simp only [W, seval, c16]
  refine callS_fn hlen ?_
  rintro _ _ ⟨rfl, rfl⟩
  refine ARun.go 40 ?_
  simp only [W, seval, c16, e1]
  refine ARun.ret Tryz.func16 rfl ⟨_, [], _, [], by simp, rfl, rfl, .refl _ _ _, rfl, s.length, rfl⟩
 ·have e1 : decide ((400000 : Int) < (s.length : Int)) = false := decide_eq_false (by omega)
  rw [if_neg hc]
  refine b16.go 20 rfl fun hsm => ?_
  simp only [smw] at hsm
  simp only [W, seval, c16]
  refine callS_fn hlen ?_
  rintro _ _ ⟨rfl, rfl⟩
  refine ARun.go 40 ?_
  simp only [W, seval, c16, e1]
  refine callS_of (string_ab (B := [b0, bxW 1 0 s 0]) (i := 1) (s := s) (vs := [.d (.int .i64 ((0 : Nat) : Int))]) rfl hs (by omega)) ?_
  rintro _ _ ⟨rfl, k', rfl⟩
  refine ARun.go 40 ?_
  simp only [W, seval, c16]
  refine ARun.ret Tryz.func16 rfl ⟨_, [], [(k', 1)], [], by simp, rfl, rfl, .refl _ _ _, rfl, k', rfl⟩
set_option maxHeartbeats 2000000 in
theorem gprog_in {p : PrT} (hp : rgP p = true → OkPr p) (hl : rgP p = true → (prT' p).length ≤ mostW) : AFn Tryz.prog TabI 7 [prV p] ⟨[], []⟩ (Same (.tup [.d (.sl (byD (if rgP p = true then (outT (prT' p)).1 else []))), .d (.int .i64 (if rgP p = true then (outT (prT' p)).2 else 2))]) ⟨[], []⟩) := by
 have hrg := rgP_ab p [prL p] []
 unfold prV prL at hrg
 unfold prV
 cases hr : rgP p
 ·rw [hr] at hrg
  rw [if_neg (by simp), if_neg (by simp)]
  refine b7.go 20 rfl fun _ => ?_
  simp only [W, seval, c7]
  refine callS_fn hrg ?_
  rintro _ _ ⟨rfl, rfl⟩
  refine ARun.go 40 ?_
  simp only [W, seval, c7]
  refine ARun.ret Tryz.func7 rfl (Left.empty ?_)
  exact ⟨rfl, rfl⟩
 ·rw [hr] at hrg
  have hl := hl hr
  rw [if_pos rfl, if_pos rfl]
  refine b7.go 20 rfl fun _ => ?_
  simp only [W, seval, c7]
  refine callS_fn hrg ?_
  rintro _ _ ⟨rfl, rfl⟩
  refine ARun.go 7 ?_
  simp only [W, seval, c7]
  refine OpR.step (ops := opsOf (kF Tryz.f7 11)) (i := 1) (o := opAt (opsOf (kF Tryz.f7 11)) 1) (by kernel_rfl) (.inl (by kernel_rfl)) (OpR.boxSelf (t := 54) (x := .tmp 8) (vs := [.sl [] .full, .d (.int .i64 0)]) (by kernel_rfl) (by rfl)) ?_
  rintro _ _ ⟨rfl, rfl⟩
  have hd9 : (opAt (opsOf (kF Tryz.f7 11)) 1).dst = some 9 := by kernel_rfl
  rw [hd9]
  refine ARun.bufB 1 5 (a := .self 1 54) (vs := [.d (.int .i64 0)]) (by rfl) ?_
  have hp1 : AFn Tryz.prog TabI 15 [.ptr 1 0, prV p] ⟨[prL p, bxW 1 0 [] 0], [(0, 1)]⟩ (Same (.tup []) ⟨[prL p, bxW 1 0 (prT' p) 0], [((prT' p).length, 1)]⟩) := prog_pk (hp hr) 1 0 [] 0 [prL p, []] [(0, 1)] (by simp) (by simp) rfl (by simpa using hl)
  have hd := done_ab (b0 := prL p) (s := prT' p) (by unfold prT'; simp) hl
  obtain ⟨S, hS⟩ : ∃ S, prT' p = S := ⟨_, rfl⟩
  rw [hS] at hp1 hd ⊢
  change ARun _ _ _ _ _ (setV (envS 17 _) _ _) ⟨[[.d (.sl (p.structs.map suD)), .d (.sl (p.funcs.map fuD))], bxW 1 0 [] 0], [(0, 1)]⟩ _
  unfold prV prL at hp1
  unfold prL at hd
  refine ARun.go 20 ?_
  simp only [W, seval, c7]
  refine callS_fn hp1 ?_
  rintro _ _ ⟨rfl, rfl⟩
  refine ARun.go 20 ?_
  simp only [W, seval, c7]
  refine callS_of hd ?_
  rintro _ _ ⟨rfl, k', rfl⟩
  refine ARun.go 40 ?_
  simp only [W, seval, c7]
  refine ARun.ret Tryz.func7 rfl (Left.empty ?_)
  exact ⟨rfl, rfl⟩
theorem gprog_ab {p : PrT} (hp : rgP p = true → OkPr p) (hl : rgP p = true → (prT' p).length ≤ mostW) (S : Mem) : AFn Tryz.prog TabI 7 [prV p] S (Same (.tup [.d (.sl (byD (if rgP p = true then (outT (prT' p)).1 else []))), .d (.int .i64 (if rgP p = true then (outT (prT' p)).2 else 2))]) S) :=
 (gprog_in hp hl).same (by simp [prV, wkL, wk]) (by simp [wkL, wk]) S
def identR : List UInt8 → Bool
 | [] => false
 | c :: r => decide ((c :: r).length ≤ 300) && letterB c && !reservedS (c :: r) && (c :: r).all wordB
theorem takeWhile_len (p : UInt8 → Bool) (s : List UInt8) : s.take (s.takeWhile p).length = s.takeWhile p := (List.prefix_iff_eq_take.1 (List.takeWhile_prefix p)).symm
theorem takeWhile_all (p : UInt8 → Bool) : ∀ s : List UInt8, (s.takeWhile p == s) = s.all p
 | [] => rfl
 | c :: r => by
  rw [List.takeWhile_cons, List.all_cons]
  cases h : p c
  ·simp
  ·have := takeWhile_all p r
   simp only [if_true, Bool.true_and, ← this]
   simp
theorem letter_plain (c : UInt8) (h : letterB c = true) : ¬ whiteB c = true ∧ ¬ c.toNat = 47 := by
 unfold letterB at h
 unfold whiteB
 simp only [decide_eq_true_eq] at *
 omega
theorem ident_rule (s : List UInt8) : identR s = identS s := by
 cases s with
 | nil => rfl
 | cons c r =>
 obtain ⟨s, hs⟩ : ∃ s, c :: r = s := ⟨_, rfl⟩
 have hr : takeS s 0 = takeAt s (whiteAt s 0) := by
  unfold takeS
  rw [if_neg (by omega)]
  rfl
 have hgd : s.getD 0 0 = c := by rw [← hs]; rfl
 have hpos : 0 < s.length := by rw [← hs]; simp
 have hdef : identR s = (decide (s.length ≤ 300) && letterB c && !reservedS s && s.all wordB) := by rw [← hs]; rfl
 rw [hs, hdef]
 unfold identS
 rw [hr]
 by_cases hl : letterB c = true
 ·have hw : whiteAt s 0 = 0 := by
   refine whiteAt_of s 0 0 (by omega) ?_
   rw [List.drop_zero, ← hs]
   exact skip_stop c r (letter_plain c hl).1 fun h => (letter_plain c hl).2 h.1
  have ht : textAt s 0 (runAt wordB s 0) = s.takeWhile wordB := by
   unfold textAt runAt
   rw [List.drop_zero, Nat.zero_add, Nat.sub_zero]
   exact takeWhile_len _ s
  have hta : takeAt s 0 = (⟨if reservedS (s.takeWhile wordB) = true then 4 else 1, s.takeWhile wordB, 0, 0, runAt wordB s 0⟩, 0) := by
   unfold takeAt
   rw [if_neg (by omega), hgd, if_pos hl, ht]
  rw [hw, hta, hl, ← takeWhile_all]
  cases he : (s.takeWhile wordB == s)
  ·simp
  ·rw [eq_of_beq he]
   cases reservedS s <;> simp
 ·have hl' : letterB c = false := by simpa using hl
  rw [hl', Bool.and_false, Bool.false_and, Bool.false_and]
  symm
  cases hb : (decide (s.length ≤ 300) && decide ((takeAt s (whiteAt s 0)).2 = 0) && decide ((takeAt s (whiteAt s 0)).1.kind = 1) && ((takeAt s (whiteAt s 0)).1.text == s)) with
  | false => rfl
  | true =>
  exfalso
  simp only [Bool.and_eq_true, decide_eq_true_eq, beq_iff_eq] at hb
  obtain ⟨⟨_, hk⟩, htx⟩ := hb
  have hle := whiteAt_le s 0
  obtain ⟨p, hp⟩ : ∃ p, whiteAt s 0 = p := ⟨_, rfl⟩
  rw [hp] at hk htx hle
  have hp0 : p = 0 := by
   have h1 : ∀ e, textAt s p e = s → p = 0 := fun e h => by
    have := congrArg List.length h
    unfold textAt at this
    simp only [List.length_take, List.length_drop] at this
    omega
   unfold takeAt at htx hk
   split at htx
   ·rw [← htx] at hpos; cases hpos
   ·split at htx
    ·exact h1 _ htx
    ·rename_i h2 h3
     rw [if_neg h2, if_neg h3] at hk
     split at hk
     ·split at hk
      ·cases hk
      ·cases hk
     ·split at hk
      ·cases hk
      ·cases hk
  subst hp0
  unfold takeAt at hk
  rw [if_neg (by omega), hgd, if_neg hl] at hk
  split at hk
  ·split at hk
   ·cases hk
   ·cases hk
  ·split at hk
   ·cases hk
   ·cases hk
structure Agr (f : Int → Bool × Int) (n : Int) : Prop where
 lo : -1 ≤ n
 hi : n ≤ 60000
 ok : ∀ p, 0 ≤ p → p ≤ 60000 → ((f p).1 = true ↔ 0 ≤ n ∧ p + n ≤ 60000)
 adds : ∀ p, 0 ≤ p → p ≤ 60000 → (f p).1 = true → (f p).2 = p + n
theorem plusM_in (a b : Int) : -1 ≤ plusM a b ∧ plusM a b ≤ 60000 := by unfold plusM; split <;> omega
theorem plusM_assoc (a b c : Int) : plusM (plusM a b) c = plusM a (plusM b c) := by
 unfold plusM
 repeat' split
 all_goals omega
theorem plusM_zero {a : Int} (h : -1 ≤ a) (h2 : a ≤ 60000) : plusM a 0 = a := by unfold plusM; split <;> omega
theorem zero_plusM {a : Int} (h : -1 ≤ a) (h2 : a ≤ 60000) : plusM 0 a = a := by unfold plusM; split <;> omega
theorem plusM_bad (b : Int) : plusM (-1) b = -1 := by unfold plusM; rw [if_pos (.inl (by omega))]
theorem Agr.and {f g : Int → Bool × Int} {a b : Int} (hf : Agr f a) (hg : Agr g b) : Agr (andS f g) (plusM a b) := by
 have key : ∀ p, 0 ≤ p → p ≤ 60000 → ((andS f g p).1 = true ↔ (0 ≤ a ∧ p + a ≤ 60000) ∧ 0 ≤ b ∧ p + a + b ≤ 60000) ∧ ((andS f g p).1 = true → (andS f g p).2 = p + a + b) := by
  intro p h1 h2
  unfold andS
  by_cases h : (f p).1 = false
  ·rw [if_pos h]
   have := hf.ok p h1 h2
   rw [h] at this
   exact ⟨⟨fun h => (by cases h), fun h => absurd (this.2 h.1) (by decide)⟩, fun h => (by cases h)⟩
  ·rw [if_neg h]
   have ht : (f p).1 = true := by simpa using h
   have h3 := (hf.ok p h1 h2).1 ht
   have h4 := hf.adds p h1 h2 ht
   rw [h4]
   have h5 := hg.ok (p + a) (by omega) h3.2
   exact ⟨⟨fun h => ⟨h3, h5.1 h⟩, fun h => h5.2 h.2⟩, fun h => hg.adds (p + a) (by omega) h3.2 h⟩
 obtain ⟨h1, h2⟩ := plusM_in a b
 refine ⟨h1, h2, fun p h3 h4 => ?_, fun p h3 h4 h5 => ?_⟩
 ·rw [(key p h3 h4).1]
  unfold plusM
  split <;> omega
 ·have h6 := (key p h3 h4).1.1 h5
  rw [(key p h3 h4).2 h5]
  unfold plusM
  rw [if_neg (by omega)]
  omega
theorem Agr.bad {f : Int → Bool × Int} (h : ∀ p, 0 ≤ p → p ≤ 60000 → (f p).1 = false) : Agr f (-1) :=
 ⟨by omega, by omega, fun p h1 h2 => by rw [h p h1 h2]; exact ⟨fun h => (by cases h), fun h => absurd h.1 (by omega)⟩, fun p h1 h2 h3 => by rw [h p h1 h2] at h3; cases h3⟩
theorem Agr.allow (b : Bool) : Agr (allowS b) (if b = true then 0 else -1) := by
 cases b
 ·exact Agr.bad fun p _ _ => rfl
 ·refine ⟨by decide, by decide, fun p h1 h2 => ?_, fun p h1 h2 h3 => ?_⟩
  ·rw [if_pos rfl]
   exact ⟨fun _ => ⟨Int.le_refl _, by omega⟩, fun _ => rfl⟩
  ·rw [if_pos rfl]
   show p = p + 0
   omega
theorem Agr.part (d : Int) : Agr (partS d) (if 60 < d then -1 else 1) := by
 by_cases h : 60 < d
 ·rw [if_pos h]
  refine Agr.bad fun p _ _ => ?_
  show (decide (p + 1 ≤ 60000) && decide (d ≤ 60)) = false
  rw [decide_eq_false (by omega : ¬ d ≤ 60), Bool.and_false]
 ·rw [if_neg h]
  refine ⟨by decide, by decide, fun p h1 h2 => ?_, fun p _ _ _ => rfl⟩
  show (decide (p + 1 ≤ 60000) && decide (d ≤ 60)) = true ↔ _
  rw [decide_eq_true (by omega : d ≤ 60), Bool.and_true, decide_eq_true_iff]
  omega
def sumM {α : Type} (c : α → Int) : List α → Int
 | [] => 0
 | x :: l => plusM (c x) (sumM c l)
theorem Agr.row {α : Type} {f : α → Int → Bool × Int} {c : α → Int} : ∀ (l : List α), (∀ x ∈ l, Agr (f x) (c x)) → Agr (rowS f l) (sumM c l)
 | [], _ => ⟨show (-1 : Int) ≤ 0 by decide, show (0 : Int) ≤ 60000 by decide, fun p _ h => ⟨fun _ => ⟨Int.le_refl _, by show p + 0 ≤ 60000; omega⟩, fun _ => rfl⟩, fun p _ _ _ => by show p = p + 0; omega⟩
 | x :: l, h => (h x List.mem_cons_self).and (Agr.row l fun y hy => h y (List.mem_cons_of_mem _ hy))
theorem Agr.congr {f g : Int → Bool × Int} {n : Int} (h : Agr g n) (h1 : ∀ p, 0 ≤ p → p ≤ 60000 → (f p).1 = (g p).1 ∧ ((f p).1 = true → (f p).2 = (g p).2)) : Agr f n :=
 ⟨h.lo, h.hi, fun p h2 h3 => by rw [(h1 p h2 h3).1]; exact h.ok p h2 h3, fun p h2 h3 h4 => by rw [(h1 p h2 h3).2 h4]; exact h.adds p h2 h3 (by rw [← (h1 p h2 h3).1]; exact h4)⟩
def tyR : TyT → Int → Int
 | .mk k n es, d => if 60 < d then -1 else if 1 ≤ k ∧ k ≤ 6 then (if n = [] ∧ es.length = 0 then 1 else -1) else if k = 7 then (if identS n = true ∧ es.length = 0 then 1 else -1)
  else match es with
   | [e] => if k = 8 ∧ n = [] then plusM 1 (tyR e (d + 1)) else -1
   | _ => -1
theorem tyR_agr : ∀ (t : TyT) (d : Int), Agr (fun p => tyS identS t d p) (tyR t d)
 | .mk k n es, d => by
  have hpd : ∀ p, partOk d p = (decide (p + 1 ≤ 60000) && decide (d ≤ 60)) := fun _ => rfl
  by_cases hd : 60 < d
  ·have h1 : tyR (.mk k n es) d = -1 := by unfold tyR; rw [if_pos hd]
   rw [h1]
   refine Agr.bad fun p _ _ => ?_
   show (tyS identS (.mk k n es) d p).1 = false
   have hk : partOk d p = false := by rw [hpd, decide_eq_false (by omega : ¬ d ≤ 60), Bool.and_false]
   unfold tyS
   rw [if_pos hk]
  have hP := Agr.part d
  rw [if_neg hd] at hP
  have leaf : ∀ b : Bool, (∀ p, ¬ partOk d p = false → tyS identS (.mk k n es) d p = (b, p + 1)) → Agr (fun p => tyS identS (.mk k n es) d p) (if b = true then 1 else -1) := by
   intro b hb
   have h2 := hP.and (Agr.allow b)
   have h3 : plusM 1 (if b = true then 0 else -1) = if b = true then 1 else -1 := by cases b <;> rfl
   rw [h3] at h2
   refine h2.congr fun p _ _ => ?_
   by_cases hk : partOk d p = false
   ·have e1 : (tyS identS (.mk k n es) d p) = (false, p + 1) := by unfold tyS; rw [if_pos hk]
    have e2 : andS (partS d) (allowS b) p = (false, p + 1) := by unfold andS partS; rw [if_pos hk]
    rw [e1, e2]
    exact ⟨rfl, fun _ => rfl⟩
   ·have e2 : andS (partS d) (allowS b) p = (b, p + 1) := by unfold andS partS; rw [if_neg hk]; rfl
    rw [hb p hk, e2]
    exact ⟨rfl, fun _ => rfl⟩
  by_cases h16 : 1 ≤ k ∧ k ≤ 6
  ·have h1 : tyR (.mk k n es) d = if (decide (n = []) && decide (es.length = 0)) = true then 1 else -1 := by
    unfold tyR
    rw [if_neg hd, if_pos h16]
    simp
   rw [h1]
   refine leaf _ fun p hk => ?_
   rw [tyS_go identS k n es d p hk, if_pos h16]
  by_cases h7 : k = 7
  ·have h1 : tyR (.mk k n es) d = if (identS n && decide (es.length = 0)) = true then 1 else -1 := by
    unfold tyR
    rw [if_neg hd, if_neg h16, if_pos h7]
    simp
   rw [h1]
   refine leaf _ fun p hk => ?_
   rw [tyS_go identS k n es d p hk, if_neg h16, if_pos h7]
  match es, leaf with
  | [], leaf =>
   have h1 : tyR (.mk k n []) d = -1 := by
    unfold tyR
    rw [if_neg hd, if_neg h16, if_neg h7]
   rw [h1]
   refine leaf false fun p hk => ?_
   rw [tyS_go identS k n [] d p hk, if_neg h16, if_neg h7]
   rfl
  | e :: e2 :: l, leaf =>
   have h1 : tyR (.mk k n (e :: e2 :: l)) d = -1 := by
    unfold tyR
    rw [if_neg hd, if_neg h16, if_neg h7]
   rw [h1]
   refine leaf false fun p hk => ?_
   rw [tyS_go identS k n (e :: e2 :: l) d p hk, if_neg h16, if_neg h7]
   rfl
  | [e], leaf =>
   by_cases h8 : k = 8 ∧ n = []
   ·have h1 : tyR (.mk k n [e]) d = plusM 1 (tyR e (d + 1)) := by
     conv => lhs; unfold tyR
     rw [if_neg hd, if_neg h16, if_neg h7]
     exact if_pos h8
    rw [h1]
    refine (hP.and (tyR_agr e (d + 1))).congr fun p _ _ => ?_
    by_cases hk : partOk d p = false
    ·have e1 : (tyS identS (.mk k n [e]) d p) = (false, p + 1) := by unfold tyS; rw [if_pos hk]
     have e2 : ∀ g, andS (partS d) g p = (false, p + 1) := fun g => by unfold andS partS; rw [if_pos hk]
     rw [e1, e2]
     exact ⟨rfl, fun _ => rfl⟩
    ·have e2 : ∀ g, andS (partS d) g p = g (p + 1) := fun g => by unfold andS partS; rw [if_neg hk]
     rw [tyS_go identS k n [e] d p hk, if_neg h16, if_neg h7, e2]
     have e3 : tyRest identS k n d p [e] = tyS identS e (d + 1) (p + 1) := if_pos h8
     rw [e3]
     exact ⟨rfl, fun _ => rfl⟩
   ·have h1 : tyR (.mk k n [e]) d = -1 := by
     conv => lhs; unfold tyR
     rw [if_neg hd, if_neg h16, if_neg h7]
     exact if_neg h8
    rw [h1]
    refine leaf false fun p hk => ?_
    rw [tyS_go identS k n [e] d p hk, if_neg h16, if_neg h7]
    exact if_neg h8
def c117 := by
 have c := KK_of Tryz.f117 (by conv => lhs; cbv)
 dsimp only [KK, KxP, doO, opO, List.map_cons, List.map_nil, List.toList_toArray] at c
 exact c
theorem b117 : FnIs Tryz.prog 117 Tryz.f117 21 := ⟨Tryz.func117, by kernel_rfl⟩
def c119 := by
 have c := KK_of Tryz.f119 (by conv => lhs; cbv)
 dsimp only [KK, KxP, doO, opO, List.map_cons, List.map_nil, List.toList_toArray] at c
 exact c
theorem b119 : FnIs Tryz.prog 119 Tryz.f119 9 := ⟨Tryz.func119, by kernel_rfl⟩
theorem letterR_ab (c : UInt8) (S : Mem) : AFn Tryz.prog TabI 117 [.d (.int .u8 (c.toNat : Int))] S (Same (.d (.bool (letterB c))) S) := by
 refine b117.go 60 rfl fun hsm => ?_
 simp only [smw] at hsm
 simp only [W, seval, c117]
 repeat' ((first | refine guardB_of (fun h => ?_) (fun h => ?_) | refine condS_of (fun h => ?_) (fun h => ?_)) <;> simp only [W, seval, c117, h])
 all_goals
  refine ARun.ret Tryz.func117 rfl (Left.none ?_)
  refine ⟨?_, rfl⟩
  simp only [W, seval, c117, wk]
  congr 2
  rw [Bool.eq_iff_iff]
  simp only [letterB, decide_eq_true_eq, decide_eq_false_iff_not, eq_self, true_iff, false_iff, Bool.false_eq_true] at *
  omega
theorem digitR_ab (c : UInt8) (S : Mem) : AFn Tryz.prog TabI 119 [.d (.int .u8 (c.toNat : Int))] S (Same (.d (.bool (digitB c))) S) := by
 refine b119.go 60 rfl fun hsm => ?_
 simp only [smw] at hsm
 simp only [W, seval, c119]
 repeat' ((first | refine guardB_of (fun h => ?_) (fun h => ?_) | refine condS_of (fun h => ?_) (fun h => ?_)) <;> simp only [W, seval, c119, h])
 all_goals
  refine ARun.ret Tryz.func119 rfl (Left.none ?_)
  refine ⟨?_, rfl⟩
  simp only [W, seval, c119, wk]
  congr 2
  rw [Bool.eq_iff_iff]
  simp only [digitB, decide_eq_true_eq, decide_eq_false_iff_not, eq_self, true_iff, false_iff, Bool.false_eq_true] at *
  omega
theorem reservedR_ab (s : List UInt8) (S : Mem) : AFn Tryz.prog TabI 118 [.d (.str s)] S (Same (.d (.bool (reservedS s))) S) := by
 refine AFn.of_calls Tryz.func118 rfl (by kernel_rfl) fun c w xs h1 h2 h3 hI => ?_
 have hv := h2 0 (by simp)
 obtain ⟨x, rfl⟩ : ∃ x, xs = #[x] := ⟨xs[0]'(by simp at h1; omega), by
  apply Array.ext
  ·simpa using h1
  ·intro j hj hj'
   have : j = 0 := by simp at hj'; omega
   subst this; rfl⟩
 simp at hv
 cases hv with
 | d _ _ hv => cases hv with
  | str _ hl =>
   refine (rReserved ⟨s.toArray⟩ w).mono ?_
   rintro e w' ⟨rfl, rfl⟩
   exact ⟨_, _, rfl, ⟨rfl, rfl⟩, .refl _ _, .d _ _ (.bool _)⟩
def c88 := by
 have c := KK_of Tryz.f88 (by conv => lhs; cbv)
 dsimp only [KK, KxP, doO, opO, List.map_cons, List.map_nil, List.toList_toArray] at c
 exact c
theorem b88 : FnIs Tryz.prog 88 Tryz.f88 40 := ⟨Tryz.func88, by kernel_rfl⟩
def c120 := by
 have c := KK_of Tryz.f120 (by conv => lhs; cbv)
 dsimp only [KK, KxP, doO, opO, List.map_cons, List.map_nil, List.toList_toArray] at c
 exact c
theorem b120 : FnIs Tryz.prog 120 Tryz.f120 26 := ⟨Tryz.func120, by kernel_rfl⟩
def c91 := by
 have c := KK_of Tryz.f91 (by conv => lhs; cbv)
 dsimp only [KK, KxP, doO, opO, List.map_cons, List.map_nil, List.toList_toArray] at c
 exact c
theorem b91 : FnIs Tryz.prog 91 Tryz.f91 64 := ⟨Tryz.func91, by kernel_rfl⟩
set_option maxHeartbeats 4000000 in
theorem identR_ab (s : List UInt8) (B : List (List V)) (T : List (Nat × Nat)) : AFn Tryz.prog TabI 88 [.d (.str s)] ⟨B, T⟩ (Same (.d (.bool (identS s))) ⟨B, T⟩) := by
 rw [← ident_rule]
 cases s with
 | nil =>
  refine b88.go 60 rfl fun hsm => ?_
  simp only [smw] at hsm
  simp only [W, seval, c88]
  refine ARun.ret Tryz.func88 rfl (Left.none ?_)
  exact ⟨rfl, rfl⟩
 | cons c r =>
 obtain ⟨s, hs⟩ : ∃ s, c :: r = s := ⟨_, rfl⟩
 have hdef : identR s = (decide (s.length ≤ 300) && letterB c && !reservedS s && s.all wordB) := by rw [← hs]; rfl
 have hg0 : s[0]? = some c := by rw [← hs]; rfl
 have hpos : 0 < s.length := by rw [← hs]; simp
 rw [hs, hdef]
 have e0 : decide ((s.length : Int) = 0) = false := decide_eq_false (by omega)
 have h0l : decide ((0 : Int) < (s.length : Int)) = true := decide_eq_true (by omega)
 by_cases h3 : s.length ≤ 300
 case neg =>
  have e3 : decide ((300 : Int) < (s.length : Int)) = true := decide_eq_true (by omega)
  rw [decide_eq_false h3, Bool.false_and, Bool.false_and, Bool.false_and]
  refine b88.go 60 rfl fun hsm => ?_
  simp only [smw] at hsm
  simp only [W, seval, c88, e0, e3]
  refine ARun.ret Tryz.func88 rfl (Left.none ?_)
  exact ⟨rfl, rfl⟩
 have e3 : decide ((300 : Int) < (s.length : Int)) = false := decide_eq_false (by omega)
 rw [decide_eq_true h3, Bool.true_and]
 refine b88.go 60 rfl fun hsm => ?_
 simp only [smw] at hsm
 simp only [W, seval, c88, e0, e3, hg0, hpos, h0l]
 refine callS_fn (letterR_ab c _) ?_
 rintro _ _ ⟨rfl, rfl⟩
 cases hl : letterB c
 ·refine ARun.go 60 ?_
  simp only [W, seval, c88]
  refine ARun.ret Tryz.func88 rfl (Left.none ?_)
  exact ⟨rfl, rfl⟩
 refine ARun.go 60 ?_
 simp only [W, seval, c88]
 refine callS_fn (reservedR_ab s _) ?_
 rintro _ _ ⟨rfl, rfl⟩
 cases hr : reservedS s
 case true =>
  refine ARun.go 60 ?_
  simp only [W, seval, c88]
  refine ARun.ret Tryz.func88 rfl (Left.none ?_)
  exact ⟨rfl, rfl⟩
 refine ARun.go 60 ?_
 simp only [W, seval, c88]
 refine ARun.loopW (fun i : Nat => (envS 40 [(0, .d (.str s)), (3, .d (.int .i64 (i : Int)))], ⟨B, T⟩)) (fun i => i ≤ s.length ∧ (s.drop i).all wordB = s.all wordB) (fun i => s.length - i) 0 ⟨by omega, rfl⟩ ?_ rfl ?_
 ·skip
  refine Agree.env _ ?_
  simp only [agw, seval]
 rintro i ⟨h1, h2⟩ ih
 dsimp only at h1 h2 ih ⊢
 by_cases hlt : i < s.length
 case neg =>
  have hd : decide ((i : Int) < (s.length : Int)) = false := decide_eq_false (by omega)
  rw [List.drop_eq_nil_of_le (by omega)] at h2
  refine ARun.go 60 ?_
  simp only [W, seval, c88, hd]
  refine ARun.ret Tryz.func88 rfl (Left.none ?_)
  rw [← h2]
  exact ⟨rfl, rfl⟩
 have hd : decide ((i : Int) < (s.length : Int)) = true := decide_eq_true (by omega)
 have hg : s[i]? = some s[i] := List.getElem?_eq_getElem hlt
 have hw := wrap_in ((i : Int) + 1) (by omega)
 rw [drop_get hlt, List.all_cons] at h2
 have hwb : wordB s[i] = (letterB s[i] || digitB s[i]) := rfl
 rw [hwb] at h2
 refine ARun.go 60 ?_
 simp only [W, seval, c88, hd, hg, hlt]
 refine callS_fn (letterR_ab s[i] _) ?_
 rintro _ _ ⟨rfl, rfl⟩
 cases hl1 : letterB s[i]
 case true =>
  rw [hl1] at h2
  refine ARun.go 60 ?_
  simp only [W, seval, c88, hw]
  refine ih (i + 1) ⟨by omega, by simpa using h2⟩ (by omega) _ _ ?_ rfl
  refine Agree.env _ ?_
  simp only [agw, seval]
 refine ARun.go 60 ?_
 simp only [W, seval, c88, hg, hlt]
 refine callS_fn (digitR_ab s[i] _) ?_
 rintro _ _ ⟨rfl, rfl⟩
 cases hd1 : digitB s[i]
 case true =>
  rw [hl1, hd1] at h2
  refine ARun.go 60 ?_
  simp only [W, seval, c88, hw]
  refine ih (i + 1) ⟨by omega, by simpa using h2⟩ (by omega) _ _ ?_ rfl
  refine Agree.env _ ?_
  simp only [agw, seval]
 rw [hl1, hd1] at h2
 refine ARun.go 60 ?_
 simp only [W, seval, c88]
 refine ARun.ret Tryz.func88 rfl (Left.none ?_)
 rw [← h2]
 exact ⟨rfl, rfl⟩
theorem diff_row (l : List (List UInt8)) (i : Nat) (h : i < l.length) : diffS (i + 1) l = (diffS i l && identS l[i] && !(l.take i).contains l[i]) := by
 rw [diffS, List.getD_eq_getElem?_getD, List.getElem?_eq_getElem h]
 rfl
set_option maxHeartbeats 4000000 in
theorem idents_ab (l : List (List UInt8)) (B : List (List V)) (T : List (Nat × Nat)) : AFn Tryz.prog TabI 120 [.d (.sl (ssD l))] ⟨B, T⟩ (Same (.d (.bool (diffS l.length l))) ⟨B, T⟩) := by
 have hll : (ssD l).length = l.length := by simp [ssD]
 refine b120.go 60 rfl fun hsm => ?_
 simp only [smw] at hsm
 simp only [W, seval, c120]
 refine ARun.loopW (fun i : Nat => (envS 26 [(0, .d (.sl (ssD l))), (3, .d (.int .i64 (i : Int)))], ⟨B, T⟩)) (fun i => i ≤ l.length ∧ diffS i l = true) (fun i => l.length - i) 0 ⟨by omega, rfl⟩ ?_ rfl ?_
 ·skip
  refine Agree.env _ ?_
  simp only [agw, seval]
 rintro i ⟨h1, h2⟩ ih
 dsimp only at h1 h2 ih ⊢
 by_cases hlt : i < l.length
 case neg =>
  have hd : decide ((i : Int) < (l.length : Int)) = false := decide_eq_false (by omega)
  obtain rfl : i = l.length := by omega
  refine ARun.go 60 ?_
  simp only [W, seval, c120, hll, hd]
  refine ARun.ret Tryz.func120 rfl (Left.none ?_)
  rw [h2]
  exact ⟨rfl, rfl⟩
 have hd : decide ((i : Int) < (l.length : Int)) = true := decide_eq_true (by omega)
 have hg : (ssD l)[i]? = some [.str l[i]] := by simp [ssD, hlt]
 have hst := diff_row l i hlt
 rw [h2, Bool.true_and] at hst
 refine ARun.go 20 ?_
 simp only [W, seval, c120, hll, hd]
 refine ARun.draw (by kernel_rfl) (by kernel_rfl) (lexQ_ok 60 _ _ ?_)
 simp only [W, seval, c120, hg, hlt]
 refine ⟨_, identR_ab l[i] _ _, ?_⟩
 have hw := wrap_in ((i : Int) + 1) (by omega)
 have hmt : (ssD l).take i = ssD (l.take i) := by simp [ssD]
 have hle : (i : Int) ≤ (l.length : Int) := by omega
 cases hid : identS l[i]
 ·rw [hid] at hst
  simp only [W, seval, c120]
  refine ARun.go 20 ?_
  simp only [W, seval, c120]
  refine ARun.ret Tryz.func120 rfl (Left.none ?_)
  rw [diffS_no l (i + 1) (by simpa using hst) l.length (by omega)]
  exact ⟨rfl, rfl⟩
 rw [hid, Bool.true_and] at hst
 simp only [W, seval, c120, hg, hlt, hll, hmt, hle]
 refine ⟨_, in_ab l[i] (l.take i) _ _, ?_⟩
 cases hc : (l.take i).contains l[i]
 ·rw [hc] at hst
  simp only [W, seval, c120]
  refine ARun.go 20 ?_
  simp only [W, seval, c120, hw]
  refine ih (i + 1) ⟨by omega, by simpa using hst⟩ (by omega) _ _ ?_ rfl
  refine Agree.env _ ?_
  simp only [agw, seval]
 ·rw [hc] at hst
  simp only [W, seval, c120]
  refine ARun.go 20 ?_
  simp only [W, seval, c120]
  refine ARun.ret Tryz.func120 rfl (Left.none ?_)
  rw [diffS_no l (i + 1) (by simpa using hst) l.length (by omega)]
  exact ⟨rfl, rfl⟩
theorem tyR_le (t : TyT) (d : Int) : tyR t d ≤ 60000 := (tyR_agr t d).hi
theorem tyR_leaf (k : Int) (n : List UInt8) (es : List TyT) (d : Int) (hd : ¬ 60 < d) (h : ¬ (k = 8 ∧ n = [] ∧ es.length = 1)) : tyR (.mk k n es) d = if 1 ≤ k ∧ k ≤ 6 then (if n = [] ∧ es.length = 0 then 1 else -1) else if k = 7 then (if identS n = true ∧ es.length = 0 then 1 else -1) else -1 := by
 unfold tyR
 rw [if_neg hd]
 split
 ·rfl
 split
 ·rfl
 match es, h with
 | [], _ => rfl
 | [e], h => exact if_neg fun h2 => h ⟨h2.1, h2.2, rfl⟩
 | _ :: _ :: _, _ => rfl
set_option maxHeartbeats 8000000 in
theorem typR_ab : ∀ (t : TyT) (d : Int) (B : List (List V)) (T : List (Nat × Nat)), 0 ≤ d → d ≤ 61 → AFn Tryz.prog TabI 91 [tyV t, .d (.int .i64 d)] ⟨B, T⟩ (Same (.d (.int .i64 (tyR t d))) ⟨B, T⟩)
 | .mk k n es, d, B, T, hd0, hd1 => by
  obtain ⟨N, hn⟩ : ∃ N, B.length = N := ⟨_, rfl⟩
  simp only [tyV, TyT.kind, TyT.name, TyT.elem]
  by_cases hd : 60 < d
  ·have h1 : tyR (.mk k n es) d = -1 := by unfold tyR; rw [if_pos hd]
   have e := decide_eq_true hd
   rw [h1]
   refine b91.go 60 rfl fun hsm => ?_
   simp only [smw] at hsm
   simp only [W, seval, c91, hn, e]
   refine ARun.ret Tryz.func91 rfl (Left.box ?_)
   exact ⟨rfl, rfl⟩
  have e := decide_eq_false hd
  by_cases h8 : k = 8 ∧ n = [] ∧ es.length = 1
  ·obtain ⟨rfl, rfl, h1⟩ := h8
   match es, h1 with
   | [t], _ =>
    have ih := typR_ab t (d + 1)
    have h1 : tyR (.mk 8 [] [t]) d = plusM 1 (tyR t (d + 1)) := by
     conv => lhs; unfold tyR
     rw [if_neg hd, if_neg (by decide), if_neg (by decide)]
     exact if_pos ⟨rfl, rfl⟩
    have hw := wrap_in (d + 1) (by omega)
    have ht := tyR_le t (d + 1)
    have htv : tyV t = .agg [.d (.int .i64 t.kind), .d (.str t.name), .d (.sl (t.elem.map tyD))] := rfl
    have hte : tyD t = [.int .i64 t.kind, .str t.name, .sl (t.elem.map tyD)] := tyD_eq t
    rw [h1]
    rw [htv] at ih
    refine b91.go 100 rfl fun hsm => ?_
    simp only [smw] at hsm
    simp only [W, seval, c91, hn, e, hw, hte]
    refine callS_fn (ih _ _ (by omega) (by omega)) ?_
    rintro _ _ ⟨rfl, rfl⟩
    refine ARun.go 20 ?_
    simp only [W, seval, c91, hn]
    refine callS_fn (plus_ab 1 _ (by omega) ht _ _) ?_
    rintro _ _ ⟨rfl, rfl⟩
    refine ARun.go 20 ?_
    simp only [W, seval, c91, hn]
    refine ARun.ret Tryz.func91 rfl (Left.box ?_)
    exact ⟨rfl, rfl⟩
  rw [tyR_leaf k n es d hd h8]
  have hv : ∀ (b : Prop) [Decidable b], (if b ∧ es.length = 0 then (1 : Int) else -1) = if (decide b && decide ((es.length : Int) = 0)) = true then 1 else -1 := by
   intro b _
   have hq : ((es.length : Int) = 0) = (es.length = 0) := propext ⟨fun h => by omega, fun h => by omega⟩
   simp [hq]
  by_cases hA : 1 ≤ k ∧ k ≤ 6
  ·rw [if_pos hA, hv]
   have a1 := decide_eq_true hA.1
   have a6 := decide_eq_true hA.2
   have a7 : decide (k = 7) = false := decide_eq_false (by omega)
   have a8 : decide (k = 8) = false := decide_eq_false (by omega)
   cases an : decide (n = []) <;> cases al : decide ((es.length : Int) = 0)
   all_goals
    refine b91.go 100 rfl fun hsm => ?_
    simp only [smw] at hsm
    simp only [W, seval, c91, hn, e, a1, a6, a7, a8, an, al]
    refine ARun.ret Tryz.func91 rfl (Left.box ?_)
    exact ⟨rfl, rfl⟩
  rw [if_neg hA]
  by_cases hB : k = 7
  ·rw [if_pos hB, hv, Bool.decide_eq_true]
   have a1 : decide (1 ≤ k) = true := decide_eq_true (by omega)
   have a6 : decide (k ≤ 6) = false := decide_eq_false (by omega)
   have a7 := decide_eq_true hB
   have a8 : decide (k = 8) = false := decide_eq_false (by omega)
   refine b91.go 100 rfl fun hsm => ?_
   simp only [smw] at hsm
   simp only [W, seval, c91, hn, e, a1, a6, a7, a8]
   refine callS_fn (identR_ab n _ _) ?_
   rintro _ _ ⟨rfl, rfl⟩
   cases identS n <;> cases al : decide ((es.length : Int) = 0)
   all_goals
    refine ARun.go 100 ?_
    simp only [W, seval, c91, hn, a7, a8, al]
    refine ARun.ret Tryz.func91 rfl (Left.box ?_)
    exact ⟨rfl, rfl⟩
  rw [if_neg hB]
  have a7 := decide_eq_false hB
  by_cases h88 : k = 8
  ·have a1 : decide (1 ≤ k) = true := decide_eq_true (by omega)
   have a6 : decide (k ≤ 6) = false := decide_eq_false (by omega)
   have a8 := decide_eq_true h88
   cases an : decide (n = [])
   ·refine b91.go 100 rfl fun hsm => ?_
    simp only [smw] at hsm
    simp only [W, seval, c91, hn, e, a1, a6, a7, a8, an]
    refine ARun.ret Tryz.func91 rfl (Left.box ?_)
    exact ⟨rfl, rfl⟩
   ·have al : decide ((es.length : Int) = 1) = false := decide_eq_false fun h => h8 ⟨h88, of_decide_eq_true an, by omega⟩
    refine b91.go 100 rfl fun hsm => ?_
    simp only [smw] at hsm
    simp only [W, seval, c91, hn, e, a1, a6, a7, a8, an, al]
    refine ARun.ret Tryz.func91 rfl (Left.box ?_)
    exact ⟨rfl, rfl⟩
  have a8 := decide_eq_false h88
  by_cases h1 : 1 ≤ k
  ·have a1 := decide_eq_true h1
   have a6 : decide (k ≤ 6) = false := decide_eq_false (by omega)
   refine b91.go 100 rfl fun hsm => ?_
   simp only [smw] at hsm
   simp only [W, seval, c91, hn, e, a1, a6, a7, a8]
   refine ARun.ret Tryz.func91 rfl (Left.box ?_)
   exact ⟨rfl, rfl⟩
  ·have a1 := decide_eq_false h1
   refine b91.go 100 rfl fun hsm => ?_
   simp only [smw] at hsm
   simp only [W, seval, c91, hn, e, a1, a7, a8]
   refine ARun.ret Tryz.func91 rfl (Left.box ?_)
   exact ⟨rfl, rfl⟩
theorem bad_plusM (a : Int) : plusM a (-1) = -1 := by unfold plusM; rw [if_pos (.inr (.inl (by omega)))]
def posE : ExT → Prop
 | .mk k _ i _ _ ks => (k = 3 → 0 ≤ i) ∧ ∀ x ∈ ks, posE x
def okB (x : ExT) : Bool :=
 (if x.kind = 1 ∨ x.kind = 7 ∨ x.kind = 9 then identS x.text else if x.kind = 6 then decide (0 < rankS x.text) else decide (x.text = [])) &&
 (if x.kind = 2 then true else decide (x.int = 0) || (decide (x.kind = 3) && decide (x.int = 1))) &&
 (if x.kind = 8 then decide (2 ≤ x.type.kind ∧ x.type.kind ≤ 6) else if x.kind = 14 then decide (x.type.kind = 7) else if x.kind = 15 then decide (x.type.kind = 8) else zeroS x.type) &&
 (if x.kind = 14 then decide (x.names.length = x.kids.length) && diffS x.names.length x.names else decide (x.names.length = 0))
def tyd (k : Int) : Bool := decide (k = 8) || decide (k = 14) || decide (k = 15)
def bR (x : ExT) (d : Int) : Int := plusM (if okB x = true then 0 else -1) (if tyd x.kind = true then tyR x.type (d + 1) else 0)
def sizeB (k : Int) (n : Nat) : Bool := decide ((n : Int) ≤ mostS k) && decide (1 ≤ k ∧ k ≤ 15) && (decide (manyS k = -1) || decide ((n : Int) = manyS k))
mutual
def exR : ExT → Int → Int
 | .mk k t i ty ns ks, d => plusM (if 60 < d then -1 else 1) (plusM (if sizeB k ks.length = true then 0 else -1) (plusM (bR (.mk k t i ty ns ks) d) (exsR ks (d + 1))))
def exsR : List ExT → Int → Int
 | [], _ => 0
 | x :: l, d => plusM (exR x d) (exsR l d)
end
theorem bool_eq {a b : Bool} (h : a = true ↔ b = true) : a = b := Bool.eq_iff_iff.2 h
theorem bare_agr (x : ExT) (d : Int) (hp : x.kind = 3 → 0 ≤ x.int) : Agr (fun p => bareS x d p) (bR x d) := by
 unfold bR
 have ht : Agr (if tyd x.kind = true then fun p => tyS identS x.type (d + 1) p else allowS true) (if tyd x.kind = true then tyR x.type (d + 1) else 0) := by
  by_cases h : tyd x.kind = true
  ·rw [if_pos h, if_pos h]
   exact tyR_agr _ _
  ·rw [if_neg h, if_neg h]
   exact Agr.allow true
 refine ((Agr.allow (okB x)).and ht).congr fun p _ _ => ?_
 obtain ⟨k, hk⟩ : ∃ k, x.kind = k := ⟨_, rfl⟩
 have hz : (x.names.length = 0) = ¬ 0 < x.names.length := propext ⟨fun h => by omega, fun h => by omega⟩
 have he : ∀ l : List UInt8, (l == []) = decide (l = []) := fun l => by cases l <;> rfl
 have key : (bareS x d p).1 = (okB x && (if tyd k = true then (tyS identS x.type (d + 1) p).1 else true)) ∧ ((bareS x d p).1 = true → (bareS x d p).2 = if tyd k = true then (tyS identS x.type (d + 1) p).2 else p) := by
  unfold bareS bareT okB tyd
  rw [hk] at hp ⊢
  have hb : ∀ a b : Prop, (a = b) = (a ↔ b) := fun a b => propext ⟨fun h => by rw [h], propext⟩
  by_cases h8 : k = 8
  ·subst h8
   by_cases h2 : 2 ≤ x.type.kind ∧ x.type.kind ≤ 6
   ·refine ⟨bool_eq ?_, ?_⟩
    ·simp [he, h2]
     grind
    ·simp [h2]
   ·refine ⟨bool_eq ?_, ?_⟩
    ·simp [he, h2]
    ·simp [h2]
  by_cases h14 : k = 14
  ·subst h14
   by_cases h2 : x.type.kind = 7
   ·by_cases h3 : (tyS identS x.type (d + 1) p).1 = true
    ·refine ⟨bool_eq ?_, ?_⟩
     ·simp [he, h2, h3]
      grind
     ·simp [h2, h3]
    ·refine ⟨bool_eq ?_, ?_⟩
     ·simp [he, h2, h3]
     ·simp [h2, h3]
   ·refine ⟨bool_eq ?_, ?_⟩
    ·simp [he, h2]
    ·simp [h2]
  by_cases h15 : k = 15
  ·subst h15
   by_cases h2 : x.type.kind = 8
   ·refine ⟨bool_eq ?_, ?_⟩
    ·simp [he, h2]
     grind
    ·simp [h2]
   ·refine ⟨bool_eq ?_, ?_⟩
    ·simp [he, h2]
    ·simp [h2]
  refine ⟨bool_eq ?_, ?_⟩
  ·by_cases h3 : k = 3
   ·subst h3
    have := hp rfl
    simp [he]
    grind
   ·simp [he, h8, h14, h15, h3]
    grind
  ·simp [h8, h14, h15]
 show (bareS x d p).1 = (andS (allowS (okB x)) (if tyd x.kind = true then fun p => tyS identS x.type (d + 1) p else allowS true) p).1 ∧ ((bareS x d p).1 = true → (bareS x d p).2 = (andS (allowS (okB x)) (if tyd x.kind = true then fun p => tyS identS x.type (d + 1) p else allowS true) p).2)
 have e1 : ∀ g, andS (allowS true) g p = g p := fun g => rfl
 have e2 : ∀ g, andS (allowS false) g p = (false, p) := fun g => rfl
 rw [key.1, hk]
 cases ho : okB x
 ·rw [e2]
  exact ⟨rfl, fun h => (by cases h)⟩
 ·rw [e1]
  have h2 := key.2
  rw [key.1, ho] at h2
  simp only [Bool.true_and] at h2 ⊢
  by_cases h : tyd k = true
  ·simp only [if_pos h] at h2 ⊢
   exact ⟨trivial, h2⟩
  ·simp only [if_neg h] at h2 ⊢
   exact ⟨rfl, fun _ => h2 trivial⟩
theorem size_eq (k : Int) (n : Nat) : (mostS k < (n : Int) ∨ manyS k = -2 ∨ (0 ≤ manyS k ∧ (n : Int) ≠ manyS k)) ↔ sizeB k n = false := by
 have h1 : manyS k = -2 ↔ ¬ (1 ≤ k ∧ k ≤ 15) := by
  unfold manyS
  repeat' split
  all_goals omega
 have h2 : -2 ≤ manyS k := by
  unfold manyS
  repeat' split
  all_goals omega
 have h3 : (sizeB k n = true) ↔ ((n : Int) ≤ mostS k ∧ (1 ≤ k ∧ k ≤ 15)) ∧ (manyS k = -1 ∨ (n : Int) = manyS k) := by
  unfold sizeB
  simp
 rw [← Bool.not_eq_true, h3]
 omega
mutual
theorem exR_agr : ∀ (x : ExT) (d : Int), posE x → Agr (fun p => exS x d p) (exR x d)
 | .mk k t i ty ns ks, d, hx => by
  unfold posE at hx
  have hb := bare_agr (.mk k t i ty ns ks) d hx.1
  have hk := exsR_agr ks (d + 1) hx.2
  have hall := (Agr.part d).and ((Agr.allow (sizeB k ks.length)).and (hb.and hk))
  conv => rhs; unfold exR
  refine hall.congr fun p _ _ => ?_
  have hs := size_eq k ks.length
  by_cases h1 : partOk d p = false
  ·have e1 : exS (.mk k t i ty ns ks) d p = (false, p + 1) := by unfold exS; rw [if_pos h1]
   have e2 : ∀ g, andS (partS d) g p = (false, p + 1) := fun g => by unfold andS partS; rw [if_pos h1]
   rw [e1, e2]
   exact ⟨rfl, fun _ => rfl⟩
  have e2 : ∀ g, andS (partS d) g p = g (p + 1) := fun g => by unfold andS partS; rw [if_neg h1]
  rw [e2]
  unfold exS
  rw [if_neg h1]
  by_cases h2 : sizeB k ks.length = false
  ·rw [if_pos (hs.2 h2), h2]
   exact ⟨rfl, fun h => (by cases h)⟩
  ·rw [if_neg fun h => h2 (hs.1 h), show sizeB k ks.length = true by simpa using h2]
   show _ = (andS (fun p => bareS (.mk k t i ty ns ks) d p) (fun p => exsS ks (d + 1) p) (p + 1)).1 ∧ (_ → _ = (andS (fun p => bareS (.mk k t i ty ns ks) d p) (fun p => exsS ks (d + 1) p) (p + 1)).2)
   unfold andS
   exact ⟨rfl, fun _ => rfl⟩
theorem exsR_agr : ∀ (l : List ExT) (d : Int), (∀ x ∈ l, posE x) → Agr (fun p => exsS l d p) (exsR l d)
 | [], d, _ => by
  unfold exsR
  refine (Agr.allow true).congr fun p _ _ => ?_
  unfold exsS
  exact ⟨rfl, fun _ => rfl⟩
 | x :: l, d, h => by
  unfold exsR
  refine ((exR_agr x d (h x List.mem_cons_self)).and (exsR_agr l d fun y hy => h y (List.mem_cons_of_mem _ hy))).congr fun p _ _ => ?_
  have e : exsS (x :: l) d p = andS (fun p => exS x d p) (fun p => exsS l d p) p := by
   conv => lhs; unfold exsS
   rfl
  rw [e]
  exact ⟨rfl, fun _ => rfl⟩
end
def c171 := by
 have c := KK_of Tryz.f171 (by conv => lhs; cbv)
 dsimp only [KK, KxP, doO, opO, List.map_cons, List.map_nil, List.toList_toArray] at c
 exact c
theorem exR_le (x : ExT) (d : Int) : -1 ≤ exR x d ∧ exR x d ≤ 60000 := by cases x; unfold exR; exact plusM_in _ _
theorem exsR_le : ∀ (l : List ExT) (d : Int), -1 ≤ exsR l d ∧ exsR l d ≤ 60000
 | [], d => by unfold exsR; omega
 | x :: l, d => by unfold exsR; exact plusM_in _ _
theorem exsR_drop (ks : List ExT) (i : Nat) (h : i < ks.length) (d : Int) : exsR (ks.drop i) d = plusM (exR ks[i] d) (exsR (ks.drop (i + 1)) d) := by
 rw [drop_get h]
 conv => lhs; unfold exsR
def ExpOk (x : ExT) : Prop := ∀ (d : Int) (B : List (List V)) (T : List (Nat × Nat)), 0 ≤ d → d ≤ 61 → AFn Tryz.prog TabI 171 [exV x, .d (.int .i64 d)] ⟨B, T⟩ (Same (.d (.int .i64 (exR x d))) ⟨B, T⟩)
def exbV (x : ExT) : List V := [.d (.int .i64 x.kind), .d (.str x.text), .d (.int .u64 x.int), .d (.int .i64 x.type.kind), .d (.str x.type.name), .d (.sl (x.type.elem.map tyD)), .d (.sl (ssD x.names)), .d (.sl (x.kids.map exD))]
set_option maxHeartbeats 4000000 in
theorem exp_e (x : ExT) (hk : ∀ y ∈ x.kids, ExpOk y) (hlen : x.kids.length ≤ 30000) (d n : Int) (hd0 : 0 ≤ d) (hd : d ≤ 60) (hn0 : -1 ≤ n) (hn1 : n ≤ 60000) (N : Nat) (B : List (List V)) (T : List (Nat × Nat)) (hn : B.length = N) :
 ARun Tryz.prog TabI (N, T.length) 171 [.code (kF Tryz.f171 72)] (envS 218 [(1, .d (.int .i64 d)), (2, .ptr N 0), (6, .d (.int .i64 n)), (7, .d (.int .i64 (x.kids.length : Int)))]) ⟨B ++ [exbV x], T⟩ (Ab.Left ⟨B, T⟩ (Same (.d (.int .i64 (plusM n (exsR x.kids (d + 1))))) ⟨B, T⟩)) := by
 have hw := wrap_in (d + 1) (by omega)
 refine ARun.go 8 ?_
 simp only [W, seval, c171, hn]
 refine ARun.loopW (fun a : Nat × Int => (envS 218 [(1, .d (.int .i64 d)), (2, .ptr N 0), (6, .d (.int .i64 a.2)), (7, .d (.int .i64 (x.kids.length : Int))), (11, .d (.int .i64 (a.1 : Int)))], ⟨B ++ [exbV x], T⟩)) (fun a => a.1 ≤ x.kids.length ∧ -1 ≤ a.2 ∧ a.2 ≤ 60000 ∧ plusM a.2 (exsR (x.kids.drop a.1) (d + 1)) = plusM n (exsR x.kids (d + 1))) (fun a => x.kids.length - a.1) (0, n) ⟨by simp, hn0, hn1, rfl⟩ ?_ rfl ?_
 ·skip
  refine Agree.env _ ?_
  simp only [agw, seval]
 rintro ⟨i, q⟩ ⟨h1, h2, h3, h4⟩ ih
 dsimp only at h1 h2 h3 h4 ih ⊢
 by_cases hlt : i < x.kids.length
 case neg =>
  have e1 : decide ((i : Int) < (x.kids.length : Int)) = false := decide_eq_false (by omega)
  rw [List.drop_eq_nil_of_le (by omega)] at h4
  have h5 : exsR [] (d + 1) = 0 := by unfold exsR; rfl
  rw [h5, plusM_zero h2 h3] at h4
  rw [← h4]
  refine ARun.go 60 ?_
  simp only [W, seval, c171, hn, e1]
  refine ARun.ret Tryz.func171 rfl (Left.box ?_)
  exact ⟨rfl, rfl⟩
 have e1 : decide ((i : Int) < (x.kids.length : Int)) = true := decide_eq_true (by omega)
 have hwi := wrap_in ((i : Int) + 1) (by omega)
 have hg : (x.kids.map exD)[i]? = some (exD x.kids[i]) := by simp [hlt]
 have hy := hk x.kids[i] (List.getElem_mem hlt) (d + 1) (B ++ [exbV x]) T (by omega) (by omega)
 have hle := exR_le x.kids[i] (d + 1)
 rw [exsR_drop x.kids i hlt, ← plusM_assoc] at h4
 obtain ⟨y, hyy⟩ : ∃ y, x.kids[i] = y := ⟨_, rfl⟩
 rw [hyy] at hg hy hle h4
 rw [exD_eq] at hg
 unfold exV at hy
 refine ARun.go 60 ?_
 simp only [W, seval, c171, hn, e1, hg, hlt, hw, exbV]
 refine callS_fn hy ?_
 rintro _ _ ⟨rfl, rfl⟩
 refine ARun.go 20 ?_
 simp only [W, seval, c171, hn]
 refine callS_fn (plus_ab q _ h3 hle.2 _ _) ?_
 rintro _ _ ⟨rfl, rfl⟩
 have hpi := plusM_in q (exR y (d + 1))
 refine ARun.go 20 ?_
 simp only [W, seval, c171, hn, hwi]
 refine ih (i + 1, plusM q (exR y (d + 1))) ⟨by dsimp only; omega, hpi.1, hpi.2, h4⟩ (by dsimp only; omega) _ _ ?_ rfl
 refine Agree.env _ ?_
 simp only [agw, seval]
def okA (x : ExT) : Bool := if x.kind = 1 ∨ x.kind = 7 ∨ x.kind = 9 then identS x.text else if x.kind = 6 then decide (0 < rankS x.text) else decide (x.text = [])
def okI (x : ExT) : Bool := if x.kind = 2 then true else decide (x.int = 0) || (decide (x.kind = 3) && decide (x.int = 1))
def okT (x : ExT) : Bool := if x.kind = 8 then decide (2 ≤ x.type.kind ∧ x.type.kind ≤ 6) else if x.kind = 14 then decide (x.type.kind = 7) else if x.kind = 15 then decide (x.type.kind = 8) else zeroS x.type
def okN (x : ExT) : Bool := if x.kind = 14 then decide (x.names.length = x.kids.length) && diffS x.names.length x.names else decide (x.names.length = 0)
theorem okB_eq (x : ExT) : okB x = (okA x && okI x && okT x && okN x) := rfl
def resN (x : ExT) (d n : Int) : Int := if okN x = true then plusM n (exsR x.kids (d + 1)) else -1
def resT (x : ExT) (d : Int) : Int := if okT x = true then resN x d (if tyd x.kind = true then plusM 1 (tyR x.type (d + 1)) else 1) else -1
def resI (x : ExT) (d : Int) : Int := if okI x = true then resT x d else -1
def resA (x : ExT) (d : Int) : Int := if okA x = true then resI x d else -1
theorem nat_dec (a b : Nat) : decide ((a : Int) = (b : Int)) = decide (a = b) := by rw [decide_eq_decide]; omega
set_option maxHeartbeats 4000000 in
theorem exp_d (x : ExT) (hk : ∀ y ∈ x.kids, ExpOk y) (hlen : x.kids.length ≤ 30000) (d n : Int) (hd0 : 0 ≤ d) (hd : d ≤ 60) (hn0 : -1 ≤ n) (hn1 : n ≤ 60000) (N : Nat) (B : List (List V)) (T : List (Nat × Nat)) (hn : B.length = N) :
 ARun Tryz.prog TabI (N, T.length) 171 [.code (kF Tryz.f171 64)] (envS 218 [(1, .d (.int .i64 d)), (2, .ptr N 0), (6, .d (.int .i64 n)), (7, .d (.int .i64 (x.kids.length : Int)))]) ⟨B ++ [exbV x], T⟩ (Ab.Left ⟨B, T⟩ (Same (.d (.int .i64 (resN x d n))) ⟨B, T⟩)) := by
 have he := exp_e x hk hlen d n hd0 hd hn0 hn1 N B T hn
 unfold resN
 refine ARun.go 1 ?_
 simp only [W, seval, c171]
 refine ARun.after [_] _ (fun _ : Unit => (envS 218 [(1, .d (.int .i64 d)), (2, .ptr N 0), (6, .d (.int .i64 n)), (7, .d (.int .i64 (x.kids.length : Int)))], ⟨B ++ [exbV x], T⟩)) (fun _ => okN x = true) ?_ ?_
 ·rintro ⟨⟩ hc
  rw [if_pos hc]
  exact he
 intro K' hend
 by_cases h14 : x.kind = 14
 ·have e14 := decide_eq_true h14
  have hN : okN x = (decide (x.names.length = x.kids.length) && diffS x.names.length x.names) := by unfold okN; rw [if_pos h14]
  have hnd := nat_dec x.names.length x.kids.length
  cases hl : decide (x.names.length = x.kids.length)
  ·rw [hl] at hnd hN
   rw [hN]
   refine ARun.goK 60 ?_
   simp only [W, seval, c171, hn, exbV, e14, hnd]
   refine ARun.ret Tryz.func171 rfl (Left.box ?_)
   exact ⟨rfl, rfl⟩
  rw [hl] at hnd hN
  refine ARun.goK 60 ?_
  simp only [W, seval, c171, hn, exbV, e14, hnd]
  refine callS_fn (idents_ab x.names _ _) ?_
  rintro _ _ ⟨rfl, rfl⟩
  cases hb : diffS x.names.length x.names
  ·rw [hb] at hN
   rw [hN]
   refine ARun.goK 60 ?_
   simp only [W, seval, c171, hn]
   refine ARun.ret Tryz.func171 rfl (Left.box ?_)
   exact ⟨rfl, rfl⟩
  ·rw [hb] at hN
   refine ARun.goK 60 ?_
   simp only [W, seval, c171, hn, exbV, e14]
   refine hend () hN _ _ ?_ rfl
   refine Agree.env _ ?_
   simp only [agw, seval]
 ·have e14 := decide_eq_false h14
  have hN : okN x = decide (x.names.length = 0) := by unfold okN; rw [if_neg h14]
  by_cases h0 : x.names.length = 0
  ·have e0 : decide ((0 : Int) < (x.names.length : Int)) = false := decide_eq_false (by omega)
   refine ARun.goK 60 ?_
   simp only [W, seval, c171, hn, exbV, e14, e0]
   refine hend () (by rw [hN]; exact decide_eq_true h0) _ _ ?_ rfl
   refine Agree.env _ ?_
   simp only [agw, seval]
  ·have e0 : decide ((0 : Int) < (x.names.length : Int)) = true := decide_eq_true (by omega)
   rw [hN, decide_eq_false h0]
   refine ARun.goK 60 ?_
   simp only [W, seval, c171, hn, exbV, e14, e0]
   refine ARun.ret Tryz.func171 rfl (Left.box ?_)
   exact ⟨rfl, rfl⟩
set_option maxHeartbeats 8000000 in
theorem exp_c (x : ExT) (hk : ∀ y ∈ x.kids, ExpOk y) (hlen : x.kids.length ≤ 30000) (d : Int) (hd0 : 0 ≤ d) (hd : d ≤ 60) (N : Nat) (B : List (List V)) (T : List (Nat × Nat)) (hn : B.length = N) :
 ARun Tryz.prog TabI (N, T.length) 171 [.code (kF Tryz.f171 50)] (envS 218 [(1, .d (.int .i64 d)), (2, .ptr N 0), (6, .d (.int .i64 1)), (7, .d (.int .i64 (x.kids.length : Int)))]) ⟨B ++ [exbV x], T⟩ (Ab.Left ⟨B, T⟩ (Same (.d (.int .i64 (resT x d))) ⟨B, T⟩)) := by
 have hw := wrap_in (d + 1) (by omega)
 refine ARun.go 1 ?_
 simp only [W, seval, c171]
 refine ARun.after [_] _ (fun _ : Unit => (envS 218 [(1, .d (.int .i64 d)), (2, .ptr N 0), (6, .d (.int .i64 1)), (7, .d (.int .i64 (x.kids.length : Int))), (10, .d (.bool (tyd x.kind && okT x)))], ⟨B ++ [exbV x], T⟩)) (fun _ => True) ?_ ?_
 ·rintro ⟨⟩ -
  refine ARun.go 1 ?_
  simp only [W, seval, c171]
  refine ARun.after [_] _ (fun _ : Unit => (envS 218 [(1, .d (.int .i64 d)), (2, .ptr N 0), (6, .d (.int .i64 (if tyd x.kind = true then plusM 1 (tyR x.type (d + 1)) else 1))), (7, .d (.int .i64 (x.kids.length : Int)))], ⟨B ++ [exbV x], T⟩)) (fun _ => okT x = true) ?_ ?_
  ·rintro ⟨⟩ hc
   unfold resT
   rw [if_pos hc]
   have hp := plusM_in 1 (tyR x.type (d + 1))
   exact exp_d x hk hlen d _ hd0 hd (by split <;> omega) (by split <;> omega) N B T hn
  intro K' hend
  cases ht : (tyd x.kind && okT x)
  ·cases htd : tyd x.kind
   ·have hok : okT x = zeroS x.type := by
     unfold tyd at htd
     unfold okT
     simp only [Bool.or_eq_false_iff, decide_eq_false_iff_not] at htd
     rw [if_neg htd.1.1, if_neg htd.1.2, if_neg htd.2]
    have htd' := htd
    unfold tyd at htd'
    simp only [Bool.or_eq_false_iff] at htd'
    have hnz := none_ab x.type (B ++ [exbV x]) T
    unfold tyV at hnz
    refine ARun.goK 60 ?_
    simp only [W, seval, c171, hn, exbV, htd'.1.1, htd'.1.2, htd'.2]
    refine callS_fn hnz ?_
    rintro _ _ ⟨rfl, rfl⟩
    cases hz : zeroS x.type
    ·unfold resT
     rw [hok, hz]
     refine ARun.goK 60 ?_
     simp only [W, seval, c171, hn]
     refine ARun.ret Tryz.func171 rfl (Left.box ?_)
     exact ⟨rfl, rfl⟩
    ·refine ARun.goK 60 ?_
     simp only [W, seval, c171, hn]
     refine hend () (by rw [hok, hz]) _ _ ?_ rfl
     rw [htd]
     refine Agree.env _ ?_
     simp only [agw, seval]
     all_goals rfl
   ·have hok : okT x = false := by rw [htd, Bool.true_and] at ht; exact ht
    unfold resT
    rw [hok]
    unfold tyd at htd
    cases e8 : decide (x.kind = 8)
    ·cases e14 : decide (x.kind = 14)
     ·rw [e8, e14, Bool.false_or, Bool.false_or] at htd
      refine ARun.goK 60 ?_
      simp only [W, seval, c171, hn, exbV, e8, e14, htd]
      refine ARun.ret Tryz.func171 rfl (Left.box ?_)
      exact ⟨rfl, rfl⟩
     ·refine ARun.goK 60 ?_
      simp only [W, seval, c171, hn, exbV, e8, e14]
      refine ARun.ret Tryz.func171 rfl (Left.box ?_)
      exact ⟨rfl, rfl⟩
    ·refine ARun.goK 60 ?_
     simp only [W, seval, c171, hn, exbV, e8]
     refine ARun.ret Tryz.func171 rfl (Left.box ?_)
     exact ⟨rfl, rfl⟩
  ·obtain ⟨htd, hok⟩ := Bool.and_eq_true_iff.1 ht
   have hty := typR_ab x.type (d + 1) (B ++ [exbV x]) T (by omega) (by omega)
   unfold tyV at hty
   have hle := tyR_le x.type (d + 1)
   refine ARun.goK 60 ?_
   simp only [W, seval, c171, hn, exbV, hw]
   refine callS_fn hty ?_
   rintro _ _ ⟨rfl, rfl⟩
   refine ARun.goK 60 ?_
   simp only [W, seval, c171, hn]
   refine callS_fn (plus_ab 1 _ (by omega) hle _ _) ?_
   rintro _ _ ⟨rfl, rfl⟩
   refine ARun.goK 60 ?_
   simp only [W, seval, c171, hn]
   refine hend () hok _ _ ?_ rfl
   rw [htd]
   refine Agree.env _ ?_
   simp only [agw, seval]
   all_goals rfl
 intro K' hend
 by_cases h8 : x.kind = 8
 ·have e8 := decide_eq_true h8
  have ht : (tyd x.kind && okT x) = (decide (2 ≤ x.type.kind) && decide (x.type.kind ≤ 6)) := by
   unfold tyd okT
   rw [if_pos h8, e8]
   simp
  rw [ht] at hend
  cases a2 : decide (2 ≤ x.type.kind) <;> cases a6 : decide (x.type.kind ≤ 6)
  all_goals
   rw [a2, a6] at hend
   have e14 : decide (x.kind = 14) = false := decide_eq_false (by omega)
   have e15 : decide (x.kind = 15) = false := decide_eq_false (by omega)
   refine ARun.goK 60 ?_
   simp only [W, seval, c171, hn, exbV, e8, e14, e15, a2, a6]
   refine hend () trivial _ _ ?_ rfl
   refine Agree.env _ ?_
   simp only [agw, seval]
   try rfl
 have e8 := decide_eq_false h8
 by_cases h14 : x.kind = 14
 ·have e14 := decide_eq_true h14
  have e15 : decide (x.kind = 15) = false := decide_eq_false (by omega)
  have ht : (tyd x.kind && okT x) = decide (x.type.kind = 7) := by
   unfold tyd okT
   rw [if_neg h8, if_pos h14, e14]
   simp
  rw [ht] at hend
  cases a7 : decide (x.type.kind = 7)
  all_goals
   rw [a7] at hend
   refine ARun.goK 60 ?_
   simp only [W, seval, c171, hn, exbV, e8, e14, e15, a7]
   refine hend () trivial _ _ ?_ rfl
   refine Agree.env _ ?_
   simp only [agw, seval]
   try rfl
 have e14 := decide_eq_false h14
 by_cases h15 : x.kind = 15
 ·have e15 := decide_eq_true h15
  have ht : (tyd x.kind && okT x) = decide (x.type.kind = 8) := by
   unfold tyd okT
   rw [if_neg h8, if_neg h14, if_pos h15, e15]
   simp
  rw [ht] at hend
  refine ARun.goK 60 ?_
  simp only [W, seval, c171, hn, exbV, e8, e14, e15]
  refine hend () trivial _ _ ?_ rfl
  refine Agree.env _ ?_
  simp only [agw, seval]
  try rfl
 have e15 := decide_eq_false h15
 have ht : (tyd x.kind && okT x) = false := by
  unfold tyd
  rw [e8, e14, e15]
  rfl
 rw [ht] at hend
 refine ARun.goK 60 ?_
 simp only [W, seval, c171, hn, exbV, e8, e14, e15]
 refine hend () trivial _ _ ?_ rfl
 refine Agree.env _ ?_
 simp only [agw, seval]
 try rfl
theorem rank_nn (s : List UInt8) : 0 ≤ rankS s := by
 rcases rank_in s with ⟨x, hx, rfl⟩ | h
 ·have : ∀ x ∈ rankT, 0 ≤ rankS x.1 := by decide
  exact this x hx
 ·rw [rank_no s fun x hx e => by simpa [e] using h x hx]
  omega
set_option maxHeartbeats 4000000 in
theorem exp_b (x : ExT) (hk : ∀ y ∈ x.kids, ExpOk y) (hlen : x.kids.length ≤ 30000) (d : Int) (hd0 : 0 ≤ d) (hd : d ≤ 60) (N : Nat) (B : List (List V)) (T : List (Nat × Nat)) (hn : B.length = N) :
 ARun Tryz.prog TabI (N, T.length) 171 [.code (kF Tryz.f171 42)] (envS 218 [(1, .d (.int .i64 d)), (2, .ptr N 0), (6, .d (.int .i64 1)), (7, .d (.int .i64 (x.kids.length : Int)))]) ⟨B ++ [exbV x], T⟩ (Ab.Left ⟨B, T⟩ (Same (.d (.int .i64 (resI x d))) ⟨B, T⟩)) := by
 have he := exp_c x hk hlen d hd0 hd N B T hn
 unfold resI
 refine ARun.go 1 ?_
 simp only [W, seval, c171]
 refine ARun.after [_] _ (fun _ : Unit => (envS 218 [(1, .d (.int .i64 d)), (2, .ptr N 0), (6, .d (.int .i64 1)), (7, .d (.int .i64 (x.kids.length : Int)))], ⟨B ++ [exbV x], T⟩)) (fun _ => okI x = true) ?_ ?_
 ·rintro ⟨⟩ hc
  rw [if_pos hc]
  exact he
 intro K' hend
 by_cases h2 : x.kind = 2
 ·have e2 := decide_eq_true h2
  have ho : okI x = true := by unfold okI; rw [if_pos h2]
  refine ARun.goK 60 ?_
  simp only [W, seval, c171, hn, exbV, e2]
  refine hend () ho _ _ ?_ rfl
  refine Agree.env _ ?_
  simp only [agw, seval]
 have e2 := decide_eq_false h2
 have ho : okI x = (decide (x.int = 0) || (decide (x.kind = 3) && decide (x.int = 1))) := by unfold okI; rw [if_neg h2]
 cases e0 : decide (x.int = 0)
 case true =>
  rw [e0] at ho
  refine ARun.goK 60 ?_
  simp only [W, seval, c171, hn, exbV, e2, e0]
  refine hend () ho _ _ ?_ rfl
  refine Agree.env _ ?_
  simp only [agw, seval]
 cases e3 : decide (x.kind = 3)
 case false =>
  rw [e0, e3] at ho
  rw [ho]
  refine ARun.goK 60 ?_
  simp only [W, seval, c171, hn, exbV, e2, e0, e3]
  refine ARun.ret Tryz.func171 rfl (Left.box ?_)
  exact ⟨rfl, rfl⟩
 cases e1 : decide (x.int = 1)
 case true =>
  rw [e0, e3, e1] at ho
  refine ARun.goK 60 ?_
  simp only [W, seval, c171, hn, exbV, e2, e0, e3, e1]
  refine hend () ho _ _ ?_ rfl
  refine Agree.env _ ?_
  simp only [agw, seval]
 rw [e0, e3, e1] at ho
 rw [ho]
 refine ARun.goK 60 ?_
 simp only [W, seval, c171, hn, exbV, e2, e0, e3, e1]
 refine ARun.ret Tryz.func171 rfl (Left.box ?_)
 exact ⟨rfl, rfl⟩
set_option maxHeartbeats 4000000 in
theorem exp_a (x : ExT) (hk : ∀ y ∈ x.kids, ExpOk y) (hlen : x.kids.length ≤ 30000) (d : Int) (hd0 : 0 ≤ d) (hd : d ≤ 60) (N : Nat) (B : List (List V)) (T : List (Nat × Nat)) (hn : B.length = N) :
 ARun Tryz.prog TabI (N, T.length) 171 [.code (kF Tryz.f171 32)] (envS 218 [(1, .d (.int .i64 d)), (2, .ptr N 0), (6, .d (.int .i64 1)), (7, .d (.int .i64 (x.kids.length : Int)))]) ⟨B ++ [exbV x], T⟩ (Ab.Left ⟨B, T⟩ (Same (.d (.int .i64 (resA x d))) ⟨B, T⟩)) := by
 have he := exp_b x hk hlen d hd0 hd N B T hn
 unfold resA
 refine ARun.go 1 ?_
 simp only [W, seval, c171]
 refine ARun.after [_] _ (fun _ : Unit => (envS 218 [(1, .d (.int .i64 d)), (2, .ptr N 0), (6, .d (.int .i64 1)), (7, .d (.int .i64 (x.kids.length : Int))), (9, .d (.bool (decide (x.kind = 1) || decide (x.kind = 7) || decide (x.kind = 9))))], ⟨B ++ [exbV x], T⟩)) (fun _ => True) ?_ ?_
 ·rintro ⟨⟩ -
  refine ARun.go 1 ?_
  simp only [W, seval, c171]
  refine ARun.after [_] _ (fun _ : Unit => (envS 218 [(1, .d (.int .i64 d)), (2, .ptr N 0), (6, .d (.int .i64 1)), (7, .d (.int .i64 (x.kids.length : Int)))], ⟨B ++ [exbV x], T⟩)) (fun _ => okA x = true) ?_ ?_
  ·rintro ⟨⟩ hc
   rw [if_pos hc]
   exact he
  intro K' hend
  cases hm : (decide (x.kind = 1) || decide (x.kind = 7) || decide (x.kind = 9))
  ·have hno : ¬ (x.kind = 1 ∨ x.kind = 7 ∨ x.kind = 9) := by
    simp only [Bool.or_eq_false_iff, decide_eq_false_iff_not] at hm
    omega
   by_cases h6 : x.kind = 6
   ·have e6 := decide_eq_true h6
    have ho : okA x = decide (0 < rankS x.text) := by unfold okA; rw [if_neg hno, if_pos h6]
    have hnn := rank_nn x.text
    refine ARun.goK 60 ?_
    simp only [W, seval, c171, hn, exbV, e6]
    refine callS_fn (rankR_ab x.text _ _) ?_
    rintro _ _ ⟨rfl, rfl⟩
    by_cases hr : rankS x.text = 0
    ·have er := decide_eq_true hr
     rw [ho, decide_eq_false (by omega : ¬ 0 < rankS x.text)]
     refine ARun.goK 60 ?_
     simp only [W, seval, c171, hn, exbV, e6, er]
     refine ARun.ret Tryz.func171 rfl (Left.box ?_)
     exact ⟨rfl, rfl⟩
    ·have er := decide_eq_false hr
     refine ARun.goK 60 ?_
     simp only [W, seval, c171, hn, exbV, e6, er]
     refine hend () (by rw [ho]; exact decide_eq_true (by omega)) _ _ ?_ rfl
     refine Agree.env _ ?_
     simp only [agw, seval]
   ·have e6 := decide_eq_false h6
    have ho : okA x = decide (x.text = []) := by unfold okA; rw [if_neg hno, if_neg h6]
    cases et : decide (x.text = [])
    ·rw [et] at ho
     rw [ho]
     refine ARun.goK 60 ?_
     simp only [W, seval, c171, hn, exbV, e6, et]
     refine ARun.ret Tryz.func171 rfl (Left.box ?_)
     exact ⟨rfl, rfl⟩
    ·rw [et] at ho
     refine ARun.goK 60 ?_
     simp only [W, seval, c171, hn, exbV, e6, et]
     refine hend () ho _ _ ?_ rfl
     refine Agree.env _ ?_
     simp only [agw, seval]
  ·have hyes : x.kind = 1 ∨ x.kind = 7 ∨ x.kind = 9 := by
    simp only [Bool.or_eq_true, decide_eq_true_eq] at hm
    omega
   have e6 : decide (x.kind = 6) = false := decide_eq_false (by omega)
   have ho : okA x = identS x.text := by unfold okA; rw [if_pos hyes]
   refine ARun.goK 60 ?_
   simp only [W, seval, c171, hn, exbV, e6]
   refine callS_fn (identR_ab x.text _ _) ?_
   rintro _ _ ⟨rfl, rfl⟩
   cases hi : identS x.text
   ·rw [ho, hi]
    refine ARun.goK 60 ?_
    simp only [W, seval, c171, hn, exbV, e6]
    refine ARun.ret Tryz.func171 rfl (Left.box ?_)
    exact ⟨rfl, rfl⟩
   ·refine ARun.goK 60 ?_
    simp only [W, seval, c171, hn, exbV, e6]
    refine hend () (by rw [ho, hi]) _ _ ?_ rfl
    refine Agree.env _ ?_
    simp only [agw, seval]
 intro K' hend
 cases e1 : decide (x.kind = 1)
 case true =>
  rw [e1] at hend
  refine ARun.goK 60 ?_
  simp only [W, seval, c171, hn, exbV, e1]
  refine hend () trivial _ _ ?_ rfl
  refine Agree.env _ ?_
  simp only [agw, seval]
  try rfl
 cases e7 : decide (x.kind = 7)
 case true =>
  rw [e1, e7] at hend
  refine ARun.goK 60 ?_
  simp only [W, seval, c171, hn, exbV, e1, e7]
  refine hend () trivial _ _ ?_ rfl
  refine Agree.env _ ?_
  simp only [agw, seval]
  try rfl
 rw [e1, e7] at hend
 refine ARun.goK 60 ?_
 simp only [W, seval, c171, hn, exbV, e1, e7]
 refine hend () trivial _ _ ?_ rfl
 refine Agree.env _ ?_
 simp only [agw, seval]
 try rfl
def wantI (k : Int) (n : Nat) : Int := if manyS k = -1 then (n : Int) else manyS k
def wantD (n : Int) : List (List D) := [[.int .i64 (-1)], [.int .i64 0], [.int .i64 0], [.int .i64 0], [.int .i64 1], [.int .i64 1], [.int .i64 2], [.int .i64 n], [.int .i64 1], [.int .i64 1], [.int .i64 2], [.int .i64 3], [.int .i64 1], [.int .i64 2], [.int .i64 n], [.int .i64 n]]
theorem want_get (k : Int) (n : Nat) (h1 : 1 ≤ k) (h2 : k ≤ 15) : (wantD (n : Int))[k.toNat]? = some [.int .i64 (wantI k n)] := by
 have : k = 1 ∨ k = 2 ∨ k = 3 ∨ k = 4 ∨ k = 5 ∨ k = 6 ∨ k = 7 ∨ k = 8 ∨ k = 9 ∨ k = 10 ∨ k = 11 ∨ k = 12 ∨ k = 13 ∨ k = 14 ∨ k = 15 := by omega
 rcases this with rfl | rfl | rfl | rfl | rfl | rfl | rfl | rfl | rfl | rfl | rfl | rfl | rfl | rfl | rfl <;> rfl
theorem res_eq (x : ExT) (d : Int) (hd : ¬ 60 < d) (hs : sizeB x.kind x.kids.length = true) : resA x d = exR x d := by
 cases x with
 | mk k t i ty ns ks =>
 have he := exsR_le ks (d + 1)
 have h1 : ∀ a, -1 ≤ a → a ≤ 60000 → plusM 0 a = a := fun a h2 h3 => zero_plusM h2 h3
 have hsz : sizeB k ks.length = true := hs
 unfold exR resA resI resT resN
 rw [if_neg hd, if_pos hsz]
 unfold bR
 rw [okB_eq]
 have hp := plusM_in
 rw [zero_plusM (hp _ _).1 (hp _ _).2]
 cases okA (.mk k t i ty ns ks)
 ·simp [plusM_bad, bad_plusM]
 cases okI (.mk k t i ty ns ks)
 ·simp [plusM_bad, bad_plusM]
 cases okT (.mk k t i ty ns ks)
 ·simp [plusM_bad, bad_plusM]
 cases okN (.mk k t i ty ns ks)
 ·simp [plusM_bad, bad_plusM]
 simp only [Bool.and_self, if_true]
 show plusM (if tyd k = true then plusM 1 (tyR ty (d + 1)) else 1) (exsR ks (d + 1)) = plusM 1 (plusM (plusM 0 (if tyd k = true then tyR ty (d + 1) else 0)) (exsR ks (d + 1)))
 have hty := tyR_agr ty (d + 1)
 by_cases h : tyd k = true
 ·rw [if_pos h, if_pos h, zero_plusM hty.lo hty.hi, plusM_assoc]
 ·rw [if_neg h, if_neg h, zero_plusM (by omega) (by omega), zero_plusM he.1 he.2]
theorem exR_deep (x : ExT) {d : Int} (h : 60 < d) : exR x d = -1 := by cases x; unfold exR; rw [if_pos h, plusM_bad]
theorem exR_size (x : ExT) (d : Int) (h : sizeB x.kind x.kids.length = false) : exR x d = -1 := by
 cases x with
 | mk k t i ty ns ks =>
 have h' : sizeB k ks.length = false := h
 unfold exR
 have hb : (if sizeB k ks.length = true then (0 : Int) else -1) = -1 := by rw [h']; rfl
 rw [hb, plusM_bad, bad_plusM]
set_option maxHeartbeats 8000000 in
theorem exp_step (x : ExT) (hk : ∀ y ∈ x.kids, ExpOk y) : ExpOk x := by
 intro d B T hd0 hd1
 obtain ⟨N, hn⟩ : ∃ N, B.length = N := ⟨_, rfl⟩
 refine AFn.bodyE (body := kF Tryz.f171 0) 218 Tryz.func171 (by kernel_rfl) (by kernel_rfl) (by kernel_rfl) (Nat.le_of_ble_eq_true rfl) fun hsm => ?_
 simp only [smL, sm, exV, stV, tyV, caV, paV, suV, fuV, prV, Bool.and_eq_true, decide_eq_true_eq, and_true, true_and, List.length_map, ssD_length] at hsm
 unfold exV
 refine ARun.go 10 ?_
 simp only [W, seval, c171, hn]
 change ARun _ _ _ _ _ _ ⟨B ++ [exbV x], T⟩ _
 refine ARun.after [_] _ (fun _ : Unit => (envS 218 [(1, .d (.int .i64 d)), (2, .ptr N 0), (5, .d (.int .i64 (mostS x.kind)))], ⟨B ++ [exbV x], T⟩)) (fun _ => True) ?_ ?_
 case refine_2 =>
  intro K' hend
  unfold mostS at hend
  by_cases h15 : x.kind = 15
  ·have e15 := decide_eq_true h15
   rw [if_pos h15] at hend
   refine ARun.goK 30 ?_
   simp only [W, seval, c171, hn, exbV, e15]
   refine hend () trivial _ _ ?_ rfl
   refine Agree.env _ ?_
   simp only [agw, seval]
  ·have e15 := decide_eq_false h15
   rw [if_neg h15] at hend
   refine ARun.goK 30 ?_
   simp only [W, seval, c171, hn, exbV, e15]
   refine hend () trivial _ _ ?_ rfl
   refine Agree.env _ ?_
   simp only [agw, seval]
 rintro ⟨⟩ -
 refine ARun.go 1 ?_
 simp only [W, seval, c171]
 refine ARun.after [_] _ (fun _ : Unit => (envS 218 [(1, .d (.int .i64 d)), (2, .ptr N 0)], ⟨B ++ [exbV x], T⟩)) (fun _ => ¬ 60 < d ∧ (x.kids.length : Int) ≤ mostS x.kind) ?_ ?_
 case refine_2 =>
  intro K' hend
  by_cases hd : 60 < d
  ·have e := decide_eq_true hd
   rw [exR_deep x hd]
   refine ARun.goK 30 ?_
   simp only [W, seval, c171, hn, exbV, e]
   refine ARun.ret Tryz.func171 rfl (Left.box ?_)
   exact ⟨rfl, rfl⟩
  have e := decide_eq_false hd
  by_cases hm : mostS x.kind < (x.kids.length : Int)
  ·have em := decide_eq_true hm
   rw [exR_size x d (by unfold sizeB; rw [decide_eq_false (by omega : ¬ (x.kids.length : Int) ≤ mostS x.kind)]; rfl)]
   refine ARun.goK 30 ?_
   simp only [W, seval, c171, hn, exbV, e, em]
   refine ARun.ret Tryz.func171 rfl (Left.box ?_)
   exact ⟨rfl, rfl⟩
  ·have em := decide_eq_false hm
   refine ARun.goK 30 ?_
   simp only [W, seval, c171, hn, exbV, e, em]
   refine hend () ⟨hd, by omega⟩ _ _ ?_ rfl
   refine Agree.env _ ?_
   simp only [agw, seval]
 rintro ⟨⟩ ⟨hd, hm⟩
 have hm30 : mostS x.kind ≤ 30000 := by unfold mostS; split <;> omega
 refine ARun.go 20 ?_
 simp only [W, seval, c171, hn, exbV, mapD_nil, mapD_cons, Nat.reduceMul]
 change ARun _ _ _ _ _ _ ⟨B ++ [exbV x], T⟩ _
 refine ARun.after [_] _ (fun _ : Unit => (envS 218 [(1, .d (.int .i64 d)), (2, .ptr N 0), (6, .d (.int .i64 1)), (7, .d (.int .i64 (x.kids.length : Int)))], ⟨B ++ [exbV x], T⟩)) (fun _ => sizeB x.kind x.kids.length = true) ?_ ?_
 ·rintro ⟨⟩ hs
  rw [← res_eq x d hd hs]
  exact exp_a x hk (by omega) d hd0 (by omega) N B T hn
 intro K' hend
 by_cases h1 : x.kind < 1
 ·have e1 := decide_eq_true h1
  rw [exR_size x d (by unfold sizeB; rw [decide_eq_false (by omega : ¬ (1 ≤ x.kind ∧ x.kind ≤ 15)), Bool.and_false, Bool.false_and])]
  refine ARun.goK 40 ?_
  simp only [W, seval, c171, hn, exbV, e1]
  refine ARun.ret Tryz.func171 rfl (Left.box ?_)
  exact ⟨rfl, rfl⟩
 have e1 := decide_eq_false h1
 by_cases h2 : 15 < x.kind
 ·have e2 := decide_eq_true h2
  rw [exR_size x d (by unfold sizeB; rw [decide_eq_false (by omega : ¬ (1 ≤ x.kind ∧ x.kind ≤ 15)), Bool.and_false, Bool.false_and])]
  refine ARun.goK 40 ?_
  simp only [W, seval, c171, hn, exbV, e1, e2]
  refine ARun.ret Tryz.func171 rfl (Left.box ?_)
  exact ⟨rfl, rfl⟩
 have e2 := decide_eq_false h2
 have hg := want_get x.kind x.kids.length (by omega) (by omega)
 unfold wantD at hg
 have hk0 : (0 : Int) ≤ x.kind := by omega
 have hk16 : x.kind.toNat < 16 := by omega
 have hs : sizeB x.kind x.kids.length = decide ((x.kids.length : Int) = wantI x.kind x.kids.length) := by
  unfold sizeB wantI
  rw [decide_eq_true hm, decide_eq_true (by omega : 1 ≤ x.kind ∧ x.kind ≤ 15)]
  by_cases hw : manyS x.kind = -1
  ·simp [hw]
  ·simp [hw]
 cases ew : decide ((x.kids.length : Int) = wantI x.kind x.kids.length)
 ·rw [ew] at hs
  rw [exR_size x d hs]
  refine ARun.goK 40 ?_
  simp only [W, seval, c171, hn, exbV, e1, e2, hg, hk0, hk16, ew]
  refine ARun.ret Tryz.func171 rfl (Left.box ?_)
  exact ⟨rfl, rfl⟩
 ·rw [ew] at hs
  refine ARun.goK 40 ?_
  simp only [W, seval, c171, hn, exbV, e1, e2, hg, hk0, hk16, ew]
  refine hend () hs _ _ ?_ rfl
  refine Agree.env _ ?_
  simp only [agw, seval]
mutual
theorem expR_ab : ∀ x : ExT, ExpOk x
 | .mk _ _ _ _ _ ks => exp_step _ (expR_all ks)
theorem expR_all : ∀ (ks : List ExT), ∀ x ∈ ks, ExpOk x
 | [], _, h => absurd h List.not_mem_nil
 | y :: l, x, h => by
  rcases List.mem_cons.1 h with e | e
  ·rw [e]; exact expR_ab y
  ·exact expR_all l x e
end
def c148 := by
 have c := KK_of Tryz.f148 (by conv => lhs; cbv)
 dsimp only [KK, KxP, doO, opO, List.map_cons, List.map_nil, List.toList_toArray] at c
 exact c
theorem b148 : FnIs Tryz.prog 148 Tryz.f148 25 := ⟨Tryz.func148, by kernel_rfl⟩
def c170 := by
 have c := KK_of Tryz.f170 (by conv => lhs; cbv)
 dsimp only [KK, KxP, doO, opO, List.map_cons, List.map_nil, List.toList_toArray] at c
 exact c
theorem b170 : FnIs Tryz.prog 170 Tryz.f170 21 := ⟨Tryz.func170, by kernel_rfl⟩
def c183 := by
 have c := KK_of Tryz.f183 (by conv => lhs; cbv)
 dsimp only [KK, KxP, doO, opO, List.map_cons, List.map_nil, List.toList_toArray] at c
 exact c
theorem b183 : FnIs Tryz.prog 183 Tryz.f183 24 := ⟨Tryz.func183, by kernel_rfl⟩
def c169 := by
 have c := KK_of Tryz.f169 (by conv => lhs; cbv)
 dsimp only [KK, KxP, doO, opO, List.map_cons, List.map_nil, List.toList_toArray] at c
 exact c
theorem b169 : FnIs Tryz.prog 169 Tryz.f169 19 := ⟨Tryz.func169, by kernel_rfl⟩
def xs40R (l : List ExT) (d : Int) : Int := if l.length ≤ 40 then exsR l d else -1
theorem xs40_agr (l : List ExT) (d : Int) (h : ∀ x ∈ l, posE x) : Agr (exs40 l d) (xs40R l d) := by
 have h1 := (exsR_agr l d h).and (Agr.allow (decide (l.length ≤ 40)))
 have h2 : plusM (exsR l d) (if decide (l.length ≤ 40) = true then 0 else -1) = xs40R l d := by
  unfold xs40R
  have := exsR_le l d
  by_cases hl : l.length ≤ 40
  ·rw [if_pos hl, decide_eq_true hl, if_pos rfl, plusM_zero this.1 this.2]
  ·rw [if_neg hl, decide_eq_false hl, if_neg (by decide), bad_plusM]
 rw [h2] at h1
 exact h1
set_option maxHeartbeats 4000000 in
theorem exps_ab (l : List ExT) (d : Int) (hd0 : 0 ≤ d) (hd : d ≤ 61) (B : List (List V)) (T : List (Nat × Nat)) : AFn Tryz.prog TabI 148 [.d (.sl (l.map exD)), .d (.int .i64 d)] ⟨B, T⟩ (Same (.d (.int .i64 (xs40R l d))) ⟨B, T⟩) := by
 unfold xs40R
 by_cases h40 : l.length ≤ 40
 case neg =>
  have e : decide ((40 : Int) < (l.length : Int)) = true := decide_eq_true (by omega)
  rw [if_neg h40]
  refine b148.go 40 rfl fun hsm => ?_
  simp only [smw] at hsm
  simp only [W, seval, c148, e]
  refine ARun.ret Tryz.func148 rfl (Left.none ?_)
  exact ⟨rfl, rfl⟩
 have e : decide ((40 : Int) < (l.length : Int)) = false := decide_eq_false (by omega)
 rw [if_pos h40]
 refine b148.go 40 rfl fun hsm => ?_
 simp only [smw] at hsm
 simp only [W, seval, c148, e]
 refine ARun.loopW (fun a : Nat × Int => (envS 25 [(0, .d (.sl (l.map exD))), (1, .d (.int .i64 d)), (5, .d (.int .i64 a.2)), (6, .d (.int .i64 (a.1 : Int)))], ⟨B, T⟩)) (fun a => a.1 ≤ l.length ∧ -1 ≤ a.2 ∧ a.2 ≤ 60000 ∧ plusM a.2 (exsR (l.drop a.1) d) = exsR l d) (fun a => l.length - a.1) (0, 0) ⟨by simp, by decide, by decide, zero_plusM (exsR_le l d).1 (exsR_le l d).2⟩ ?_ rfl ?_
 ·skip
  refine Agree.env _ ?_
  simp only [agw, seval]
 rintro ⟨i, q⟩ ⟨h1, h2, h3, h4⟩ ih
 dsimp only at h1 h2 h3 h4 ih ⊢
 by_cases hlt : i < l.length
 case neg =>
  have e1 : decide ((i : Int) < (l.length : Int)) = false := decide_eq_false (by omega)
  rw [List.drop_eq_nil_of_le (by omega)] at h4
  have h5 : exsR [] d = 0 := by unfold exsR; rfl
  rw [h5, plusM_zero h2 h3] at h4
  rw [← h4]
  refine ARun.go 60 ?_
  simp only [W, seval, c148, e1]
  refine ARun.ret Tryz.func148 rfl (Left.none ?_)
  exact ⟨rfl, rfl⟩
 have e1 : decide ((i : Int) < (l.length : Int)) = true := decide_eq_true (by omega)
 have hwi := wrap_in ((i : Int) + 1) (by omega)
 have hg : (l.map exD)[i]? = some (exD l[i]) := by simp [hlt]
 have hy := expR_ab l[i] d B T hd0 hd
 have hle := exR_le l[i] d
 rw [exsR_drop l i hlt, ← plusM_assoc] at h4
 obtain ⟨y, hyy⟩ : ∃ y, l[i] = y := ⟨_, rfl⟩
 rw [hyy] at hg hy hle h4
 rw [exD_eq] at hg
 unfold exV at hy
 refine ARun.go 60 ?_
 simp only [W, seval, c148, e1, hg, hlt]
 refine callS_fn hy ?_
 rintro _ _ ⟨rfl, rfl⟩
 refine ARun.go 20 ?_
 simp only [W, seval, c148]
 refine callS_fn (plus_ab q _ h3 hle.2 _ _) ?_
 rintro _ _ ⟨rfl, rfl⟩
 have hpi := plusM_in q (exR y d)
 refine ARun.go 20 ?_
 simp only [W, seval, c148, hwi]
 refine ih (i + 1, plusM q (exR y d)) ⟨by dsimp only; omega, hpi.1, hpi.2, h4⟩ (by dsimp only; omega) _ _ ?_ rfl
 refine Agree.env _ ?_
 simp only [agw, seval]
mutual
def headR : ExT → Bool
 | .mk k _ _ _ _ ks => headsR ks && decide (k < 14)
def headsR : List ExT → Bool
 | [] => true
 | x :: l => headR x && headsR l
end
theorem plusM_nn {a b : Int} (h : 0 ≤ plusM a b) : 0 ≤ a ∧ 0 ≤ b := by unfold plusM at h; split at h <;> omega
mutual
theorem headR_eq : ∀ (x : ExT) (d : Int), 0 ≤ exR x d → headR x = headS x
 | .mk k _ _ _ _ ks, d, h => by
  unfold exR at h
  have h2 := plusM_nn (plusM_nn h).2
  have h3 := plusM_nn h2.2
  have hs : sizeB k ks.length = true := by
   cases hb : sizeB k ks.length
   ·rw [hb] at h2
    exact absurd h2.1 (by decide)
   ·rfl
  have hk : 1 ≤ k ∧ k ≤ 15 := by
   unfold sizeB at hs
   simp only [Bool.and_eq_true, decide_eq_true_eq] at hs
   exact hs.1.2
  have hl := headsR_eq ks (d + 1) h3.2
  unfold headR headS
  rw [hl]
  cases headsS ks
  ·simp
  ·by_cases h14 : k < 14
   ·rw [decide_eq_true h14, decide_eq_true (by omega : k ≠ 14), decide_eq_true (by omega : k ≠ 15)]
    rfl
   ·rw [decide_eq_false h14]
    by_cases h5 : k = 14
    ·rw [decide_eq_false (by omega : ¬ k ≠ 14)]
     rfl
    ·rw [decide_eq_false (by omega : ¬ k ≠ 15), Bool.and_false, Bool.and_false, Bool.false_and]
theorem headsR_eq : ∀ (l : List ExT) (d : Int), 0 ≤ exsR l d → headsR l = headsS l
 | [], _, _ => by unfold headsR headsS; rfl
 | x :: l, d, h => by
  unfold exsR at h
  have h6 := plusM_nn h
  unfold headsR headsS
  rw [headR_eq x d h6.1, headsR_eq l d h6.2]
end
theorem headsR_drop (ks : List ExT) (i : Nat) (h : i < ks.length) : headsR (ks.drop i) = (headR ks[i] && headsR (ks.drop (i + 1))) := by
 rw [drop_get h]
 conv => lhs; unfold headsR
def HeadRk (x : ExT) : Prop := ∀ (B : List (List V)) (T : List (Nat × Nat)), AFn Tryz.prog TabI 170 [exV x] ⟨B, T⟩ (Same (.d (.bool (headR x))) ⟨B, T⟩)
set_option maxHeartbeats 4000000 in
theorem headR_step (x : ExT) (hk : ∀ y ∈ x.kids, HeadRk y) : HeadRk x := by
 intro B T
 obtain ⟨N, hn⟩ : ∃ N, B.length = N := ⟨_, rfl⟩
 have hx : headR x = (headsR x.kids && decide (x.kind < 14)) := by cases x; rfl
 rw [hx]
 unfold exV
 refine b170.go 40 rfl fun hsm => ?_
 simp only [smw] at hsm
 simp only [W, seval, c170, hn]
 change ARun _ _ _ _ _ _ ⟨B ++ [exbV x], T⟩ _
 refine ARun.loopW (fun i : Nat => (envS 21 [(1, .ptr N 0), (3, .d (.int .i64 (i : Int)))], ⟨B ++ [exbV x], T⟩)) (fun i => i ≤ x.kids.length ∧ headsR (x.kids.drop i) = headsR x.kids) (fun i => x.kids.length - i) 0 ⟨by omega, rfl⟩ ?_ rfl ?_
 ·skip
  refine Agree.env _ ?_
  simp only [agw, seval]
 rintro i ⟨h1, h2⟩ ih
 dsimp only at h1 h2 ih ⊢
 by_cases hlt : i < x.kids.length
 case neg =>
  have e1 : decide ((i : Int) < (x.kids.length : Int)) = false := decide_eq_false (by omega)
  rw [List.drop_eq_nil_of_le (by omega)] at h2
  have h5 : headsR [] = true := by unfold headsR; rfl
  rw [← h2, h5, Bool.true_and]
  refine ARun.go 60 ?_
  simp only [W, seval, c170, hn, exbV, e1]
  refine ARun.ret Tryz.func170 rfl (Left.box ?_)
  exact ⟨rfl, rfl⟩
 have e1 : decide ((i : Int) < (x.kids.length : Int)) = true := decide_eq_true (by omega)
 have hwi := wrap_in ((i : Int) + 1) (by omega)
 have hg : (x.kids.map exD)[i]? = some (exD x.kids[i]) := by simp [hlt]
 have hy := hk x.kids[i] (List.getElem_mem hlt) (B ++ [exbV x]) T
 rw [headsR_drop x.kids i hlt] at h2
 obtain ⟨y, hyy⟩ : ∃ y, x.kids[i] = y := ⟨_, rfl⟩
 rw [hyy] at hg hy h2
 rw [exD_eq] at hg
 unfold exV at hy
 refine ARun.go 60 ?_
 simp only [W, seval, c170, hn, e1, hg, hlt, exbV]
 refine callS_fn hy ?_
 rintro _ _ ⟨rfl, rfl⟩
 cases hb : headR y
 ·rw [hb] at h2
  rw [← h2]
  refine ARun.go 60 ?_
  simp only [W, seval, c170, hn]
  refine ARun.ret Tryz.func170 rfl (Left.box ?_)
  exact ⟨rfl, rfl⟩
 ·rw [hb] at h2
  refine ARun.go 60 ?_
  simp only [W, seval, c170, hn, hwi]
  refine ih (i + 1) ⟨by omega, h2⟩ (by omega) _ _ ?_ rfl
  refine Agree.env _ ?_
  simp only [agw, seval]
mutual
theorem headR_ab : ∀ x : ExT, HeadRk x
 | .mk _ _ _ _ _ ks => headR_step _ (headR_all ks)
theorem headR_all : ∀ (ks : List ExT), ∀ x ∈ ks, HeadRk x
 | [], _, h => absurd h List.not_mem_nil
 | y :: l, x, h => by
  rcases List.mem_cons.1 h with e | e
  ·rw [e]; exact headR_ab y
  ·exact headR_all l x e
end
set_option maxHeartbeats 4000000 in
theorem placeR_ab : ∀ (x : ExT) (B : List (List V)) (T : List (Nat × Nat)), AFn Tryz.prog TabI 183 [exV x] ⟨B, T⟩ (Same (.d (.bool (placeS x))) ⟨B, T⟩)
 | .mk k t i ty ns ks, B, T => by
  obtain ⟨N, hn⟩ : ∃ N, B.length = N := ⟨_, rfl⟩
  simp only [exV, ExT.kind, ExT.text, ExT.int, ExT.type, ExT.names, ExT.kids]
  by_cases h1 : k = 1
  ·have e1 := decide_eq_true h1
   have hp : placeS (.mk k t i ty ns ks) = true := by
    unfold placeS
    split
    ·rw [if_neg (by omega)]; exact e1
    ·exact e1
   rw [hp]
   refine b183.go 60 rfl fun hsm => ?_
   simp only [smw] at hsm
   simp only [W, seval, c183, hn, e1]
   refine ARun.ret Tryz.func183 rfl (Left.box ?_)
   exact ⟨rfl, rfl⟩
  have e1 := decide_eq_false h1
  by_cases h9 : k = 9
  case neg =>
   have e9 := decide_eq_false h9
   have hp : placeS (.mk k t i ty ns ks) = false := by
    unfold placeS
    split
    ·rw [if_neg h9]; exact e1
    ·exact e1
   rw [hp]
   refine b183.go 60 rfl fun hsm => ?_
   simp only [smw] at hsm
   simp only [W, seval, c183, hn, e1, e9]
   refine ARun.ret Tryz.func183 rfl (Left.box ?_)
   exact ⟨rfl, rfl⟩
  have e9 := decide_eq_true h9
  by_cases hl : ks.length = 1
  case neg =>
   have el : decide ((ks.length : Int) = 1) = false := decide_eq_false (by omega)
   have hp : placeS (.mk k t i ty ns ks) = false := by
    unfold placeS
    split
    ·rename_i y
     exact absurd rfl hl
    ·exact e1
   rw [hp]
   refine b183.go 60 rfl fun hsm => ?_
   simp only [smw] at hsm
   simp only [W, seval, c183, hn, e1, e9, el]
   refine ARun.ret Tryz.func183 rfl (Left.box ?_)
   exact ⟨rfl, rfl⟩
  match ks, hl with
  | [y], _ =>
   have ih := placeR_ab y
   have hp : placeS (.mk k t i ty ns [y]) = placeS y := by
    conv => lhs; unfold placeS
    exact if_pos h9
   have hyd := exD_eq y
   unfold exV at ih
   rw [hp]
   refine b183.go 60 rfl fun hsm => ?_
   simp only [smw] at hsm
   simp only [W, seval, c183, hn, e1, e9, hyd]
   refine callS_fn (ih _ _) ?_
   rintro _ _ ⟨rfl, rfl⟩
   refine ARun.go 60 ?_
   simp only [W, seval, c183, hn]
   refine ARun.ret Tryz.func183 rfl (Left.box ?_)
   exact ⟨rfl, rfl⟩
set_option maxHeartbeats 4000000 in
theorem places_ab (l : List ExT) (B : List (List V)) (T : List (Nat × Nat)) : AFn Tryz.prog TabI 169 [.d (.sl (l.map exD))] ⟨B, T⟩ (Same (.d (.bool (l.all placeS && decide (0 < l.length)))) ⟨B, T⟩) := by
 refine b169.go 40 rfl fun hsm => ?_
 simp only [smw] at hsm
 simp only [W, seval, c169]
 refine ARun.loopW (fun i : Nat => (envS 19 [(0, .d (.sl (l.map exD))), (3, .d (.int .i64 (i : Int)))], ⟨B, T⟩)) (fun i => i ≤ l.length ∧ (l.drop i).all placeS = l.all placeS) (fun i => l.length - i) 0 ⟨by omega, rfl⟩ ?_ rfl ?_
 ·skip
  refine Agree.env _ ?_
  simp only [agw, seval]
 rintro i ⟨h1, h2⟩ ih
 dsimp only at h1 h2 ih ⊢
 by_cases hlt : i < l.length
 case neg =>
  have e1 : decide ((i : Int) < (l.length : Int)) = false := decide_eq_false (by omega)
  have e2 : decide ((0 : Int) < (l.length : Int)) = decide (0 < l.length) := by rw [decide_eq_decide]; omega
  rw [List.drop_eq_nil_of_le (by omega)] at h2
  rw [← h2]
  refine ARun.go 60 ?_
  simp only [W, seval, c169, e1, e2]
  refine ARun.ret Tryz.func169 rfl (Left.none ?_)
  exact ⟨rfl, rfl⟩
 have e1 : decide ((i : Int) < (l.length : Int)) = true := decide_eq_true (by omega)
 have hwi := wrap_in ((i : Int) + 1) (by omega)
 have hg : (l.map exD)[i]? = some (exD l[i]) := by simp [hlt]
 have hy := placeR_ab l[i] B T
 rw [drop_get hlt, List.all_cons] at h2
 obtain ⟨y, hyy⟩ : ∃ y, l[i] = y := ⟨_, rfl⟩
 rw [hyy] at hg hy h2
 rw [exD_eq] at hg
 unfold exV at hy
 refine ARun.go 60 ?_
 simp only [W, seval, c169, e1, hg, hlt]
 refine callS_fn hy ?_
 rintro _ _ ⟨rfl, rfl⟩
 cases hb : placeS y
 ·rw [hb] at h2
  rw [← h2]
  refine ARun.go 60 ?_
  simp only [W, seval, c169]
  refine ARun.ret Tryz.func169 rfl (Left.none ?_)
  exact ⟨rfl, rfl⟩
 ·rw [hb] at h2
  refine ARun.go 60 ?_
  simp only [W, seval, c169, hwi]
  refine ih (i + 1) ⟨by omega, h2⟩ (by omega) _ _ ?_ rfl
  refine Agree.env _ ?_
  simp only [agw, seval]
def c147 := by
 have c := KK_of Tryz.f147 (by conv => lhs; cbv)
 dsimp only [KK, KxP, doO, opO, List.map_cons, List.map_nil, List.toList_toArray] at c
 exact c
theorem b147 : FnIs Tryz.prog 147 Tryz.f147 189 := ⟨Tryz.func147, by kernel_rfl⟩
def headOfR : List ExT → Bool | [x] => headR x | _ => false
def shapeB (k : Int) (ns : List (List UInt8)) (ls es : List ExT) (nm lf bd ot cs : Bool) : Bool :=
 if k = 1 then nameOf ns && lf && decide (es.length = 0) && bd && ot && cs
 else if k = 2 then nm && (ls.all placeS && decide (0 < ls.length)) && (decide (es.length = ls.length) || sevenOf es) && bd && ot && cs
 else if k = 3 then nm && lf && headOfR es && cs
 else if k = 4 then nm && lf && headOfR es && ot && cs
 else if k = 5 then nm && lf && headOfR es && bd
 else if k = 6 then nm && lf && decide (0 < es.length) && bd && ot && cs
 else false
def shapeR (s : StT) : Bool := shapeB s.kind s.names s.lefts s.exprs (decide (s.names.length = 0) && zeroS s.type) (decide (s.lefts.length = 0)) (decide (s.body.length = 0)) (decide (s.els.length = 0)) (decide (s.cases.length = 0))
set_option maxHeartbeats 8000000 in
theorem shape_sw (s : StT) (nm lf bd ot cs : Bool) (N : Nat) (B : List (List V)) (T : List (Nat × Nat)) (hn : B.length = N) :
 ARun Tryz.prog TabI (N, T.length) 147 [.code (kF Tryz.f147 14)] (envS 189 [(1, .ptr N 0), (3, .d (.bool nm)), (4, .d (.bool lf)), (5, .d (.bool bd)), (6, .d (.bool ot)), (7, .d (.bool cs)), (8, .d (.bool (decide (s.exprs.length = 1))))]) ⟨B ++ [stB s], T⟩ (Ab.Left ⟨B, T⟩ (Same (.d (.bool (shapeB s.kind s.names s.lefts s.exprs nm lf bd ot cs))) ⟨B, T⟩)) := by
 obtain ⟨k, hk⟩ : ∃ k, s.kind = k := ⟨_, rfl⟩
 have he0 : decide ((s.exprs.length : Int) = 0) = decide (s.exprs.length = 0) := decide_eq_decide.2 (by omega)
 have he6 : decide ((0 : Int) < (s.exprs.length : Int)) = decide (0 < s.exprs.length) := decide_eq_decide.2 (by omega)
 unfold stB
 rw [hk]
 have hE2 : ∀ n : Nat, decide (n + 1 + 1 = 1) = false := fun n => decide_eq_false (by omega)
 have hE3 : ∀ n : Nat, decide ((n : Int) + 1 + 1 = 1) = false := fun n => decide_eq_false (by omega)
 by_cases k1 : k = 1
 ·subst k1
  have hs : shapeB 1 s.names s.lefts s.exprs nm lf bd ot cs = (nameOf s.names && lf && decide (s.exprs.length = 0) && bd && ot && cs) := rfl
  rw [hs]
  generalize decide (s.exprs.length = 1) = on
  generalize decide (s.exprs.length = 0) = no at he0 ⊢
  rcases hN : s.names with _ | ⟨x, _ | ⟨y, l⟩⟩
  ·rw [show nameOf [] = false from rfl]
   refine ARun.go 200 ?_
   simp only [W, seval, c147, hn, he0]
   refine ARun.ret Tryz.func147 rfl (Left.box ?_)
   (try clear ih)
   (try simp only [dnw] at *)
   simp only [fnw, seval, Same] <;> simp [*]
   skip
  ·rw [show nameOf [x] = identS x from rfl]
   refine ARun.go 60 ?_
   simp only [W, seval, c147, hn, he0, List.map_cons, List.map_nil, List.getElem?_cons_zero, ssD]
   refine callS_fn (identR_ab x _ _) ?_
   rintro _ _ ⟨rfl, rfl⟩
   generalize identS x = q
   refine ARun.go 200 ?_
   simp only [W, seval, c147, hn, he0]
   repeat' ((first | refine guardB_of (fun h => ?_) (fun h => ?_) | refine condS_of (fun h => ?_) (fun h => ?_)) <;> simp only [W, seval, c147, h, hn, he0])
   all_goals
    refine ARun.ret Tryz.func147 rfl (Left.box ?_)
    (try clear ih)
    (try simp only [dnw] at *)
    simp only [fnw, seval, Same] <;> simp [*]
    skip
  ·rw [show nameOf (x :: y :: l) = false from rfl]
   refine ARun.go 200 ?_
   simp only [W, seval, c147, hn, he0, hE3, List.length_cons, ssD_length]
   refine ARun.ret Tryz.func147 rfl (Left.box ?_)
   (try clear ih)
   (try simp only [dnw] at *)
   simp only [fnw, seval, Same] <;> simp [*]
   skip
 by_cases k2 : k = 2
 ·subst k2
  have hs : shapeB 2 s.names s.lefts s.exprs nm lf bd ot cs = (nm && (s.lefts.all placeS && decide (0 < s.lefts.length)) && (decide (s.exprs.length = s.lefts.length) || sevenOf s.exprs) && bd && ot && cs) := rfl
  rw [hs]
  have hw := nat_dec s.exprs.length s.lefts.length
  cases nm
  ·refine ARun.go 200 ?_
   simp only [W, seval, c147, hn]
   refine ARun.ret Tryz.func147 rfl (Left.box ?_)
   (try clear ih)
   (try simp only [dnw] at *)
   simp only [fnw, seval, Same] <;> simp [*]
   skip
  refine ARun.go 60 ?_
  simp only [W, seval, c147, hn]
  refine callS_fn (places_ab s.lefts _ _) ?_
  rintro _ _ ⟨rfl, rfl⟩
  generalize (s.lefts.all placeS && decide (0 < s.lefts.length)) = q
  generalize decide (s.exprs.length = s.lefts.length) = w at hw ⊢
  clear he0 he6
  cases w
  all_goals
   rcases hE : s.exprs with _ | ⟨x, _ | ⟨y, l⟩⟩
   ·rw [hE] at hw
    simp only [List.length_nil, List.length_cons, Nat.zero_add, Int.natCast_add, Int.natCast_one, Int.natCast_zero, Int.zero_add] at hw
    rw [show sevenOf [] = false from rfl]
    refine ARun.go 200 ?_
    simp only [W, seval, c147, hn, hw]
    repeat' ((first | refine guardB_of (fun h => ?_) (fun h => ?_) | refine condS_of (fun h => ?_) (fun h => ?_)) <;> simp only [W, seval, c147, h, hn, hw])
    all_goals
     refine ARun.ret Tryz.func147 rfl (Left.box ?_)
     (try clear ih)
     (try simp only [dnw] at *)
     simp only [fnw, seval, Same] <;> simp [*]
     skip
   ·rw [hE] at hw
    simp only [List.length_nil, List.length_cons, Nat.zero_add, Int.natCast_add, Int.natCast_one, Int.natCast_zero, Int.zero_add] at hw
    rw [show sevenOf [x] = decide (x.kind = 7) from rfl]
    refine ARun.go 200 ?_
    simp only [W, seval, c147, hn, hw, exD_eq]
    repeat' ((first | refine guardB_of (fun h => ?_) (fun h => ?_) | refine condS_of (fun h => ?_) (fun h => ?_)) <;> simp only [W, seval, c147, h, hn, hw, exD_eq])
    all_goals
     refine ARun.ret Tryz.func147 rfl (Left.box ?_)
     (try clear ih)
     (try simp only [dnw] at *)
     simp only [fnw, seval, Same] <;> simp [*]
     skip
   ·rw [hE] at hw
    simp only [List.length_nil, List.length_cons, Nat.zero_add, Int.natCast_add, Int.natCast_one, Int.natCast_zero, Int.zero_add] at hw
    rw [show sevenOf (x :: y :: l) = false from rfl]
    refine ARun.go 200 ?_
    simp only [W, seval, c147, hn, hw, hE2]
    repeat' ((first | refine guardB_of (fun h => ?_) (fun h => ?_) | refine condS_of (fun h => ?_) (fun h => ?_)) <;> simp only [W, seval, c147, h, hn, hw, hE2])
    all_goals
     refine ARun.ret Tryz.func147 rfl (Left.box ?_)
     (try clear ih)
     (try simp only [dnw] at *)
     simp only [fnw, seval, Same] <;> simp [*]
     skip
 by_cases k3 : k = 3
 ·subst k3
  have hs : shapeB 3 s.names s.lefts s.exprs nm lf bd ot cs = (nm && lf && headOfR s.exprs && cs) := rfl
  rw [hs]
  clear he0 he6
  rcases hE : s.exprs with _ | ⟨x, _ | ⟨y, l⟩⟩
  ·rw [show headOfR [] = false from rfl]
   refine ARun.go 200 ?_
   simp only [W, seval, c147, hn]
   repeat' ((first | refine guardB_of (fun h => ?_) (fun h => ?_) | refine condS_of (fun h => ?_) (fun h => ?_)) <;> simp only [W, seval, c147, h, hn])
   all_goals
    refine ARun.ret Tryz.func147 rfl (Left.box ?_)
    (try clear ih)
    (try simp only [dnw] at *)
    simp only [fnw, seval, Same] <;> simp [*]
    skip
  ·rw [show headOfR [x] = headR x from rfl]
   have hd := headR_ab x
   unfold HeadRk exV at hd
   cases nm
   ·refine ARun.go 200 ?_
    simp only [W, seval, c147, hn]
    refine ARun.ret Tryz.func147 rfl (Left.box ?_)
    (try clear ih)
    (try simp only [dnw] at *)
    simp only [fnw, seval, Same] <;> simp [*]
    skip
   cases lf
   ·refine ARun.go 200 ?_
    simp only [W, seval, c147, hn]
    refine ARun.ret Tryz.func147 rfl (Left.box ?_)
    (try clear ih)
    (try simp only [dnw] at *)
    simp only [fnw, seval, Same] <;> simp [*]
    skip
   refine ARun.go 60 ?_
   simp only [W, seval, c147, hn, exD_eq]
   refine callS_fn (hd _ _) ?_
   rintro _ _ ⟨rfl, rfl⟩
   generalize headR x = q
   refine ARun.go 200 ?_
   simp only [W, seval, c147, hn]
   repeat' ((first | refine guardB_of (fun h => ?_) (fun h => ?_) | refine condS_of (fun h => ?_) (fun h => ?_)) <;> simp only [W, seval, c147, h, hn])
   all_goals
    refine ARun.ret Tryz.func147 rfl (Left.box ?_)
    (try clear ih)
    (try simp only [dnw] at *)
    simp only [fnw, seval, Same] <;> simp [*]
    skip
  ·rw [show headOfR (x :: y :: l) = false from rfl]
   refine ARun.go 200 ?_
   simp only [W, seval, c147, hn, hE2]
   repeat' ((first | refine guardB_of (fun h => ?_) (fun h => ?_) | refine condS_of (fun h => ?_) (fun h => ?_)) <;> simp only [W, seval, c147, h, hn, hE2])
   all_goals
    refine ARun.ret Tryz.func147 rfl (Left.box ?_)
    (try clear ih)
    (try simp only [dnw] at *)
    simp only [fnw, seval, Same] <;> simp [*]
    skip
 by_cases k4 : k = 4
 ·subst k4
  have hs : shapeB 4 s.names s.lefts s.exprs nm lf bd ot cs = (nm && lf && headOfR s.exprs && ot && cs) := rfl
  rw [hs]
  clear he0 he6
  rcases hE : s.exprs with _ | ⟨x, _ | ⟨y, l⟩⟩
  ·rw [show headOfR [] = false from rfl]
   refine ARun.go 200 ?_
   simp only [W, seval, c147, hn]
   repeat' ((first | refine guardB_of (fun h => ?_) (fun h => ?_) | refine condS_of (fun h => ?_) (fun h => ?_)) <;> simp only [W, seval, c147, h, hn])
   all_goals
    refine ARun.ret Tryz.func147 rfl (Left.box ?_)
    (try clear ih)
    (try simp only [dnw] at *)
    simp only [fnw, seval, Same] <;> simp [*]
    skip
  ·rw [show headOfR [x] = headR x from rfl]
   have hd := headR_ab x
   unfold HeadRk exV at hd
   cases nm
   ·refine ARun.go 200 ?_
    simp only [W, seval, c147, hn]
    refine ARun.ret Tryz.func147 rfl (Left.box ?_)
    (try clear ih)
    (try simp only [dnw] at *)
    simp only [fnw, seval, Same] <;> simp [*]
    skip
   cases lf
   ·refine ARun.go 200 ?_
    simp only [W, seval, c147, hn]
    refine ARun.ret Tryz.func147 rfl (Left.box ?_)
    (try clear ih)
    (try simp only [dnw] at *)
    simp only [fnw, seval, Same] <;> simp [*]
    skip
   refine ARun.go 60 ?_
   simp only [W, seval, c147, hn, exD_eq]
   refine callS_fn (hd _ _) ?_
   rintro _ _ ⟨rfl, rfl⟩
   generalize headR x = q
   refine ARun.go 200 ?_
   simp only [W, seval, c147, hn]
   repeat' ((first | refine guardB_of (fun h => ?_) (fun h => ?_) | refine condS_of (fun h => ?_) (fun h => ?_)) <;> simp only [W, seval, c147, h, hn])
   all_goals
    refine ARun.ret Tryz.func147 rfl (Left.box ?_)
    (try clear ih)
    (try simp only [dnw] at *)
    simp only [fnw, seval, Same] <;> simp [*]
    skip
  ·rw [show headOfR (x :: y :: l) = false from rfl]
   refine ARun.go 200 ?_
   simp only [W, seval, c147, hn, hE2]
   repeat' ((first | refine guardB_of (fun h => ?_) (fun h => ?_) | refine condS_of (fun h => ?_) (fun h => ?_)) <;> simp only [W, seval, c147, h, hn, hE2])
   all_goals
    refine ARun.ret Tryz.func147 rfl (Left.box ?_)
    (try clear ih)
    (try simp only [dnw] at *)
    simp only [fnw, seval, Same] <;> simp [*]
    skip
 by_cases k5 : k = 5
 ·subst k5
  have hs : shapeB 5 s.names s.lefts s.exprs nm lf bd ot cs = (nm && lf && headOfR s.exprs && bd) := rfl
  rw [hs]
  clear he0 he6
  rcases hE : s.exprs with _ | ⟨x, _ | ⟨y, l⟩⟩
  ·rw [show headOfR [] = false from rfl]
   refine ARun.go 200 ?_
   simp only [W, seval, c147, hn]
   repeat' ((first | refine guardB_of (fun h => ?_) (fun h => ?_) | refine condS_of (fun h => ?_) (fun h => ?_)) <;> simp only [W, seval, c147, h, hn])
   all_goals
    refine ARun.ret Tryz.func147 rfl (Left.box ?_)
    (try clear ih)
    (try simp only [dnw] at *)
    simp only [fnw, seval, Same] <;> simp [*]
    skip
  ·rw [show headOfR [x] = headR x from rfl]
   have hd := headR_ab x
   unfold HeadRk exV at hd
   cases nm
   ·refine ARun.go 200 ?_
    simp only [W, seval, c147, hn]
    refine ARun.ret Tryz.func147 rfl (Left.box ?_)
    (try clear ih)
    (try simp only [dnw] at *)
    simp only [fnw, seval, Same] <;> simp [*]
    skip
   cases lf
   ·refine ARun.go 200 ?_
    simp only [W, seval, c147, hn]
    refine ARun.ret Tryz.func147 rfl (Left.box ?_)
    (try clear ih)
    (try simp only [dnw] at *)
    simp only [fnw, seval, Same] <;> simp [*]
    skip
   refine ARun.go 60 ?_
   simp only [W, seval, c147, hn, exD_eq]
   refine callS_fn (hd _ _) ?_
   rintro _ _ ⟨rfl, rfl⟩
   generalize headR x = q
   refine ARun.go 200 ?_
   simp only [W, seval, c147, hn]
   repeat' ((first | refine guardB_of (fun h => ?_) (fun h => ?_) | refine condS_of (fun h => ?_) (fun h => ?_)) <;> simp only [W, seval, c147, h, hn])
   all_goals
    refine ARun.ret Tryz.func147 rfl (Left.box ?_)
    (try clear ih)
    (try simp only [dnw] at *)
    simp only [fnw, seval, Same] <;> simp [*]
    skip
  ·rw [show headOfR (x :: y :: l) = false from rfl]
   refine ARun.go 200 ?_
   simp only [W, seval, c147, hn, hE2]
   repeat' ((first | refine guardB_of (fun h => ?_) (fun h => ?_) | refine condS_of (fun h => ?_) (fun h => ?_)) <;> simp only [W, seval, c147, h, hn, hE2])
   all_goals
    refine ARun.ret Tryz.func147 rfl (Left.box ?_)
    (try clear ih)
    (try simp only [dnw] at *)
    simp only [fnw, seval, Same] <;> simp [*]
    skip
 by_cases k6 : k = 6
 ·subst k6
  have hs : shapeB 6 s.names s.lefts s.exprs nm lf bd ot cs = (nm && lf && decide (0 < s.exprs.length) && bd && ot && cs) := rfl
  rw [hs]
  generalize decide (s.exprs.length = 1) = on
  generalize decide (0 < s.exprs.length) = w at he6 ⊢
  refine ARun.go 200 ?_
  simp only [W, seval, c147, hn, he6]
  repeat' ((first | refine guardB_of (fun h => ?_) (fun h => ?_) | refine condS_of (fun h => ?_) (fun h => ?_)) <;> simp only [W, seval, c147, h, hn, he6])
  all_goals
   refine ARun.ret Tryz.func147 rfl (Left.box ?_)
   (try clear ih)
   (try simp only [dnw] at *)
   simp only [fnw, seval, Same] <;> simp [*]
   skip
 have hs : shapeB k s.names s.lefts s.exprs nm lf bd ot cs = false := by
  unfold shapeB
  rw [if_neg k1, if_neg k2, if_neg k3, if_neg k4, if_neg k5, if_neg k6]
 rw [hs]
 have e1 := decide_eq_false k1
 have e2 := decide_eq_false k2
 have e3 := decide_eq_false k3
 have e4 := decide_eq_false k4
 have e5 := decide_eq_false k5
 have e6 := decide_eq_false k6
 refine ARun.go 200 ?_
 simp only [W, seval, c147, hn, e1, e2, e3, e4, e5, e6]
 refine ARun.ret Tryz.func147 rfl (Left.box ?_)
 (try clear ih)
 (try simp only [dnw] at *)
 simp only [fnw, seval, Same] <;> simp [*]
 skip
set_option maxHeartbeats 4000000 in
theorem shape_ab (s : StT) (B : List (List V)) (T : List (Nat × Nat)) : AFn Tryz.prog TabI 147 [stV s] ⟨B, T⟩ (Same (.d (.bool (shapeR s))) ⟨B, T⟩) := by
 obtain ⟨N, hn⟩ : ∃ N, B.length = N := ⟨_, rfl⟩
 have hnz := none_ab s.type (B ++ [stB s]) T
 have z1 := nat_dec s.names.length 0
 have z2 := nat_dec s.lefts.length 0
 have z3 := nat_dec s.body.length 0
 have z4 := nat_dec s.els.length 0
 have z5 := nat_dec s.cases.length 0
 have z6 := nat_dec s.exprs.length 1
 simp only [Int.natCast_zero, Int.natCast_one, Int.ofNat_zero, Int.cast_ofNat_Int] at z1 z2 z3 z4 z5 z6
 unfold shapeR
 unfold stV tyV at *
 refine b147.go 6 rfl fun _ => ?_
 simp only [W, seval, c147, hn]
 change ARun _ _ _ _ _ _ ⟨B ++ [stB s], T⟩ _
 refine ARun.after [_] _ (fun _ : Unit => (envS 189 [(1, .ptr N 0), (3, .d (.bool (decide (s.names.length = 0) && zeroS s.type)))], ⟨B ++ [stB s], T⟩)) (fun _ => True) ?_ ?_
 ·rintro ⟨⟩ -
  have hsw := shape_sw s (decide (s.names.length = 0) && zeroS s.type) (decide (s.lefts.length = 0)) (decide (s.body.length = 0)) (decide (s.els.length = 0)) (decide (s.cases.length = 0)) N B T hn
  generalize (decide (s.names.length = 0) && zeroS s.type) = nm at hsw ⊢
  refine ARun.go 40 ?_
  simp only [W, seval, c147, hn, stB, z2, z3, z4, z5, z6]
  unfold stB at hsw
  refine ARun.weak ?_ hsw
  refine Agree.env _ ?_
  simp only [agw, seval]
 intro K' hend
 cases en : decide (s.names.length = 0)
 ·rw [en] at z1 hend
  refine ARun.goK 60 ?_
  simp only [W, seval, c147, hn, stB, z1]
  unfold stB at hend
  refine hend () trivial _ _ ?_ rfl
  refine Agree.env _ ?_
  simp only [agw, seval]
  try rfl
 ·rw [en] at z1 hend
  refine ARun.goK 60 ?_
  simp only [W, seval, c147, hn, stB, z1]
  refine callS_fn hnz ?_
  rintro _ _ ⟨rfl, rfl⟩
  refine ARun.goK 60 ?_
  simp only [W, seval, c147, hn, stB, z1]
  unfold stB at hend
  refine hend () trivial _ _ ?_ rfl
  refine Agree.env _ ?_
  simp only [agw, seval]
  try rfl
def posSt : Nat → StT → Prop
 | 0, _ => True
 | n + 1, s => (∀ x ∈ s.lefts, posE x) ∧ (∀ x ∈ s.exprs, posE x) ∧ (∀ x ∈ s.body, posSt n x) ∧ (∀ x ∈ s.els, posSt n x) ∧ ∀ c ∈ s.cases, ∀ x ∈ c.body, posSt n x
def zM (b : Bool) : Int := if b = true then 0 else -1
def casR (R : StT → Int → Int) (d : Int) : List Int → List CaT → Int
 | _, [] => 0
 | seen, c :: l => plusM (if 60 < d + 1 then -1 else 1) (plusM (zM (!seen.contains c.int)) (plusM (sumM (fun s => R s (d + 2)) c.body) (casR R d (seen ++ [c.int]) l)))
def restR (R : StT → Int → Int) (s : StT) (d : Int) : Int :=
 plusM (if s.kind = 1 then tyR s.type (d + 1) else 0) (plusM (casR R d [] s.cases) (plusM (xs40R s.lefts (d + 1)) (plusM (xs40R s.exprs (d + 1)) (plusM (sumM (fun x => R x (d + 1)) s.body) (sumM (fun x => R x (d + 1)) s.els)))))
def stR : Nat → StT → Int → Int
 | 0, _, _ => -1
 | n + 1, s, d => plusM (if 60 < d then -1 else 1) (plusM (zM (shapeR s && decide (s.cases.length ≤ 40))) (restR (stR n) s d))
theorem cas_agr {S : StT → Int → Int → Bool × Int} {R : StT → Int → Int} (d : Int) : ∀ (l : List CaT) (seen : List Int), (∀ c ∈ l, ∀ s ∈ c.body, ∀ d, Agr (S s d) (R s d)) → Agr (casS S d seen l) (casR R d seen l)
 | [], seen, _ => by
  unfold casR
  exact (Agr.allow true).congr fun p _ _ => by unfold casS; exact ⟨rfl, fun _ => rfl⟩
 | c :: l, seen, h => by
  have h1 := (Agr.part (d + 1)).and ((Agr.allow (!seen.contains c.int)).and ((Agr.row (f := fun s => S s (d + 2)) (c := fun s => R s (d + 2)) c.body fun s hs => h c List.mem_cons_self s hs (d + 2)).and (cas_agr d l (seen ++ [c.int]) fun c' hc => h c' (List.mem_cons_of_mem _ hc))))
  unfold casR zM
  exact h1
theorem headOf_eq (es : List ExT) (d : Int) (h : 0 ≤ xs40R es d) : headOfR es = headOf es := by
 have h2 : 0 ≤ exsR es d := by unfold xs40R at h; split at h <;> omega
 rcases es with _ | ⟨x, _ | ⟨y, l⟩⟩
 ·rfl
 ·unfold exsR at h2
  exact headR_eq x d (plusM_nn h2).1
 ·rfl
theorem shape_eq (s : StT) (d : Int) (h : 0 ≤ xs40R s.exprs d) : shapeR s = sizedS s := by
 have hh := headOf_eq s.exprs d h
 have e (n : Nat) : (!decide ((0 : Int) < (n : Int))) = decide (n = 0) := by
  rw [Bool.eq_iff_iff, Bool.not_eq_true', decide_eq_false_iff_not, decide_eq_true_iff]; omega
 rw [sizedS_eq]
 unfold shapeR shapeB sizedB
 rw [hh]
 simp only [e, Bool.not_not]
 repeat' split
 all_goals first | rfl | ac_rfl
theorem zM_swap {a b : Bool} {c X : Int} (h : 0 ≤ X → a = b) : plusM c (plusM (zM a) X) = plusM c (plusM (zM b) X) := by
 by_cases hx : 0 ≤ X
 ·rw [h hx]
 ·have : ∀ y, plusM y X = -1 := fun y => by unfold plusM; rw [if_pos (.inr (.inl (by omega)))]
  rw [this, this]
theorem st_agr : ∀ (n : Nat) (s : StT) (d : Int), posSt n s → Agr (stS n s d) (stR n s d)
 | 0, s, d, _ => Agr.bad fun _ _ _ => rfl
 | n + 1, s, d, hp => by
  unfold posSt at hp
  obtain ⟨p1, p2, p3, p4, p5⟩ := hp
  have ih := st_agr n
  have hty : Agr (if s.kind = 1 then fun p => tyS identS s.type (d + 1) p else allowS true) (if s.kind = 1 then tyR s.type (d + 1) else 0) := by
   by_cases hk : s.kind = 1
   ·rw [if_pos hk, if_pos hk]; exact tyR_agr s.type (d + 1)
   ·rw [if_neg hk, if_neg hk]; exact Agr.allow true
  have h := (Agr.part d).and ((Agr.allow (sizedS s && decide (s.cases.length ≤ 40))).and (hty.and ((cas_agr (S := stS n) (R := stR n) d s.cases [] fun c hc x hx d => ih x d (p5 c hc x hx)).and ((xs40_agr s.lefts (d + 1) p1).and ((xs40_agr s.exprs (d + 1) p2).and ((Agr.row (f := fun x => stS n x (d + 1)) (c := fun x => stR n x (d + 1)) s.body fun x hx => ih x (d + 1) (p3 x hx)).and (Agr.row (f := fun x => stS n x (d + 1)) (c := fun x => stR n x (d + 1)) s.els fun x hx => ih x (d + 1) (p4 x hx))))))))
  have e : stR (n + 1) s d = plusM (if 60 < d then -1 else 1) (plusM (zM (sizedS s && decide (s.cases.length ≤ 40))) (restR (stR n) s d)) := by
   refine zM_swap fun hx => ?_
   unfold restR at hx
   rw [shape_eq s (d + 1) (plusM_nn (plusM_nn (plusM_nn (plusM_nn hx).2).2).2).1]
  rw [e]
  exact h
def paR (most : Nat) (l : List PaT) : Int := plusM (sumM (fun x : PaT => plusM 1 (tyR x.type 0)) l) (zM (decide (l.length ≤ most) && diffS l.length (l.map PaT.name)))
def suR (s : SuT) : Int := plusM 1 (plusM (zM (identS s.name)) (paR 60 s.fields))
def fncR (n : Nat) (f : FuT) : Int := plusM 1 (plusM (zM (identS f.name)) (plusM (paR 20 f.params) (plusM (zM (decide (1 ≤ f.results.length) && decide (f.results.length ≤ 20))) (plusM (sumM (fun t => tyR t 0) f.results) (sumM (fun s => stR n s 0) f.body)))))
def prR (n : Nat) (p : PrT) : Int := plusM (sumM suR p.structs) (sumM (fncR n) p.funcs)
theorem pa_agr (most : Nat) (l : List PaT) : Agr (paS most l) (paR most l) :=
 (Agr.row (f := fun x : PaT => andS (partS 0) (fun p => tyS identS x.type 0 p)) (c := fun x : PaT => plusM 1 (tyR x.type 0)) l fun x _ => (Agr.part 0).and (tyR_agr x.type 0)).and (Agr.allow _)
theorem su_agr (s : SuT) : Agr (suS s) (suR s) := (Agr.part 0).and ((Agr.allow (identS s.name)).and (pa_agr 60 s.fields))
theorem fu_agr (n : Nat) (f : FuT) (h : ∀ x ∈ f.body, posSt n x) : Agr (fuS n f) (fncR n f) :=
 (Agr.part 0).and ((Agr.allow (identS f.name)).and ((pa_agr 20 f.params).and ((Agr.allow _).and ((Agr.row (f := fun t p => tyS identS t 0 p) (c := fun t => tyR t 0) f.results fun t _ => tyR_agr t 0).and (Agr.row (f := fun s => stS n s 0) (c := fun s => stR n s 0) f.body fun s hs => st_agr n s 0 (h s hs))))))
theorem pr_agr (n : Nat) (p : PrT) (h : ∀ f ∈ p.funcs, ∀ x ∈ f.body, posSt n x) : (prS n p 0).1 = decide (0 ≤ prR n p) := by
 have ha : Agr (prS n p) (prR n p) := (Agr.row p.structs fun s _ => su_agr s).and (Agr.row p.funcs fun f hf => fu_agr n f (h f hf))
 have h1 := ha.ok 0 (Int.le_refl _) (by omega)
 have h2 := ha.hi
 rw [Bool.eq_iff_iff, h1, decide_eq_true_iff]
 omega
def c121 := by
 have c := KK_of Tryz.f121 (by conv => lhs; cbv)
 dsimp only [KK, KxP, doO, opO, List.map_cons, List.map_nil, List.toList_toArray] at c
 exact c
theorem b121 : FnIs Tryz.prog 121 Tryz.f121 97 := ⟨Tryz.func121, by kernel_rfl⟩
def c92 := by
 have c := KK_of Tryz.f92 (by conv => lhs; cbv)
 dsimp only [KK, KxP, doO, opO, List.map_cons, List.map_nil, List.toList_toArray] at c
 exact c
theorem b92 : FnIs Tryz.prog 92 Tryz.f92 22 := ⟨Tryz.func92, by kernel_rfl⟩
theorem stR_le : ∀ (n : Nat) (s : StT) (d : Int), -1 ≤ stR n s d ∧ stR n s d ≤ 60000
 | 0, _, _ => by unfold stR; omega
 | n + 1, s, d => by unfold stR; exact plusM_in _ _
theorem sumM_le {α : Type} (f : α → Int) : ∀ l : List α, -1 ≤ sumM f l ∧ sumM f l ≤ 60000
 | [] => by unfold sumM; omega
 | x :: l => by unfold sumM; exact plusM_in _ _
theorem sumM_drop {α : Type} (f : α → Int) (l : List α) (i : Nat) (h : i < l.length) : sumM f (l.drop i) = plusM (f l[i]) (sumM f (l.drop (i + 1))) := by
 rw [drop_get h]
 conv => lhs; unfold sumM
theorem xs40_le (l : List ExT) (d : Int) : -1 ≤ xs40R l d ∧ xs40R l d ≤ 60000 := by
 have := exsR_le l d
 unfold xs40R
 split <;> omega
def StmR (n : Nat) (s : StT) : Prop := ∀ (d : Int) (B : List (List V)) (T : List (Nat × Nat)), 0 ≤ d → d ≤ 62 → AFn Tryz.prog TabI 121 [stV s, .d (.int .i64 d)] ⟨B, T⟩ (Same (.d (.int .i64 (stR n s d))) ⟨B, T⟩)
set_option maxHeartbeats 4000000 in
theorem stms_ab (n : Nat) (l : List StT) (hl : ∀ s ∈ l, StmR n s) (d : Int) (hd0 : 0 ≤ d) (hd : d ≤ 62) (B : List (List V)) (T : List (Nat × Nat)) : AFn Tryz.prog TabI 92 [.d (.sl (l.map stD)), .d (.int .i64 d)] ⟨B, T⟩ (Same (.d (.int .i64 (sumM (fun s => stR n s d) l))) ⟨B, T⟩) := by
 refine b92.go 40 rfl fun hsm => ?_
 simp only [smw] at hsm
 simp only [W, seval, c92]
 refine ARun.loopW (fun a : Nat × Int => (envS 22 [(0, .d (.sl (l.map stD))), (1, .d (.int .i64 d)), (5, .d (.int .i64 a.2)), (6, .d (.int .i64 (a.1 : Int)))], ⟨B, T⟩)) (fun a => a.1 ≤ l.length ∧ -1 ≤ a.2 ∧ a.2 ≤ 60000 ∧ plusM a.2 (sumM (fun s => stR n s d) (l.drop a.1)) = sumM (fun s => stR n s d) l) (fun a => l.length - a.1) (0, 0) ⟨by simp, by decide, by decide, zero_plusM (sumM_le _ l).1 (sumM_le _ l).2⟩ ?_ rfl ?_
 ·skip
  refine Agree.env _ ?_
  simp only [agw, seval]
 rintro ⟨i, q⟩ ⟨h1, h2, h3, h4⟩ ih
 dsimp only at h1 h2 h3 h4 ih ⊢
 by_cases hlt : i < l.length
 case neg =>
  have e1 : decide ((i : Int) < (l.length : Int)) = false := decide_eq_false (by omega)
  rw [List.drop_eq_nil_of_le (by omega)] at h4
  have h5 : sumM (fun s => stR n s d) [] = 0 := rfl
  rw [h5, plusM_zero h2 h3] at h4
  rw [← h4]
  refine ARun.go 60 ?_
  simp only [W, seval, c92, e1]
  refine ARun.ret Tryz.func92 rfl (Left.none ?_)
  exact ⟨rfl, rfl⟩
 have e1 : decide ((i : Int) < (l.length : Int)) = true := decide_eq_true (by omega)
 have hwi := wrap_in ((i : Int) + 1) (by omega)
 have hg : (l.map stD)[i]? = some (stD l[i]) := by simp [hlt]
 have hy := hl l[i] (List.getElem_mem hlt) d B T hd0 hd
 have hle := stR_le n l[i] d
 rw [sumM_drop _ l i hlt, ← plusM_assoc] at h4
 obtain ⟨y, hyy⟩ : ∃ y, l[i] = y := ⟨_, rfl⟩
 rw [hyy] at hg hy hle h4
 rw [stD_eq] at hg
 unfold stV at hy
 refine ARun.go 60 ?_
 simp only [W, seval, c92, e1, hg, hlt]
 refine callS_fn hy ?_
 rintro _ _ ⟨rfl, rfl⟩
 refine ARun.go 20 ?_
 simp only [W, seval, c92]
 refine callS_fn (plus_ab q _ h3 hle.2 _ _) ?_
 rintro _ _ ⟨rfl, rfl⟩
 have hpi := plusM_in q (stR n y d)
 refine ARun.go 20 ?_
 simp only [W, seval, c92, hwi]
 refine ih (i + 1, plusM q (stR n y d)) ⟨by dsimp only; omega, hpi.1, hpi.2, h4⟩ (by dsimp only; omega) _ _ ?_ rfl
 refine Agree.env _ ?_
 simp only [agw, seval]
def tailR (n : Nat) (s : StT) (d : Int) : Int := plusM (xs40R s.lefts (d + 1)) (plusM (xs40R s.exprs (d + 1)) (plusM (sumM (fun x => stR n x (d + 1)) s.body) (sumM (fun x => stR n x (d + 1)) s.els)))
set_option maxHeartbeats 4000000 in
theorem stm_e (n : Nat) (s : StT) (h1 : ∀ x ∈ s.body, StmR n x) (h2 : ∀ x ∈ s.els, StmR n x) (d q : Int) (hd0 : 0 ≤ d) (hd : d ≤ 60) (hq1 : q ≤ 60000) (N : Nat) (B : List (List V)) (T : List (Nat × Nat)) (hn : B.length = N) :
 ARun Tryz.prog TabI (N, T.length) 121 [.code (kF Tryz.f121 62)] (envS 97 [(1, .d (.int .i64 d)), (2, .ptr N 0), (5, .d (.int .i64 q))]) ⟨B ++ [stB s], T⟩ (Ab.Left ⟨B, T⟩ (Same (.d (.int .i64 (plusM q (tailR n s d)))) ⟨B, T⟩)) := by
 have hw := wrap_in (d + 1) (by omega)
 have l1 := xs40_le s.lefts (d + 1)
 have l2 := xs40_le s.exprs (d + 1)
 have l3 := sumM_le (fun x => stR n x (d + 1)) s.body
 have l4 := sumM_le (fun x => stR n x (d + 1)) s.els
 have l5 := plusM_in (xs40R s.lefts (d + 1)) (xs40R s.exprs (d + 1))
 have l6 := plusM_in (sumM (fun x => stR n x (d + 1)) s.body) (sumM (fun x => stR n x (d + 1)) s.els)
 have l7 := plusM_in q (plusM (xs40R s.lefts (d + 1)) (xs40R s.exprs (d + 1)))
 have hfin : plusM q (tailR n s d) = plusM (plusM q (plusM (xs40R s.lefts (d + 1)) (xs40R s.exprs (d + 1)))) (plusM (sumM (fun x => stR n x (d + 1)) s.body) (sumM (fun x => stR n x (d + 1)) s.els)) := by
  unfold tailR
  simp only [plusM_assoc]
 rw [hfin]
 unfold stB
 refine ARun.go 9 ?_
 simp only [W, seval, c121]
 refine ARun.draw (by kernel_rfl) (by kernel_rfl) (lexQ_ok 60 _ _ ?_)
 simp only [W, seval, c121, hn, hw]
 refine ⟨_, exps_ab s.lefts (d + 1) (by omega) (by omega) _ _, ?_⟩
 refine ⟨_, exps_ab s.exprs (d + 1) (by omega) (by omega) _ _, ?_⟩
 refine ⟨_, plus_ab _ _ l1.2 l2.2 _ _, ?_⟩
 refine ⟨_, plus_ab _ _ hq1 l5.2 _ _, ?_⟩
 refine ARun.go 9 ?_
 simp only [W, seval, c121]
 refine ARun.draw (by kernel_rfl) (by kernel_rfl) (lexQ_ok 60 _ _ ?_)
 simp only [W, seval, c121, hn, hw]
 refine ⟨_, stms_ab n s.body h1 (d + 1) (by omega) (by omega) _ _, ?_⟩
 refine ⟨_, stms_ab n s.els h2 (d + 1) (by omega) (by omega) _ _, ?_⟩
 refine ⟨_, plus_ab _ _ l3.2 l4.2 _ _, ?_⟩
 refine ⟨_, plus_ab _ _ l7.2 l6.2 _ _, ?_⟩
 refine ARun.go 9 ?_
 simp only [W, seval, c121]
 refine ARun.ret Tryz.func121 rfl (Left.box ?_)
 exact ⟨rfl, rfl⟩
theorem bad_all (q b : Int) : plusM q (plusM (-1) b) = -1 := by rw [plusM_bad, bad_plusM]
set_option maxHeartbeats 8000000 in
theorem stm_c (n : Nat) (s : StT) (h1 : ∀ x ∈ s.body, StmR n x) (h2 : ∀ x ∈ s.els, StmR n x) (h3 : ∀ c ∈ s.cases, ∀ x ∈ c.body, StmR n x) (hc40 : s.cases.length ≤ 40) (d q0 : Int) (hd0 : 0 ≤ d) (hd : d ≤ 60) (hq0 : -1 ≤ q0) (hq1 : q0 ≤ 60000) (N : Nat) (B : List (List V)) (T : List (Nat × Nat)) (hn : B.length = N) :
 ARun Tryz.prog TabI (N, T.length) 121 [.code (kF Tryz.f121 18)] (envS 97 [(1, .d (.int .i64 d)), (2, .ptr N 0), (5, .d (.int .i64 q0))]) ⟨B ++ [stB s], T⟩ (Ab.Left ⟨B, T⟩ (Same (.d (.int .i64 (plusM (plusM q0 (casR (stR n) d [] s.cases)) (tailR n s d)))) ⟨B, T⟩)) := by
 have hw1 := wrap_in (d + 1) (by omega)
 have hw2 := wrap_in (d + 2) (by omega)
 refine ARun.go 1 ?_
 simp only [W, seval, c121]
 refine ARun.after [_] _ (fun a : Int => (envS 97 [(1, .d (.int .i64 d)), (2, .ptr N 0), (5, .d (.int .i64 a))], ⟨B ++ [stB s], T⟩)) (fun a => a = plusM q0 (casR (stR n) d [] s.cases)) ?_ ?_
 ·rintro a rfl
  exact stm_e n s h1 h2 d _ hd0 hd (plusM_in _ _).2 N B T hn
 intro K' hend
 unfold stB at hend ⊢
 refine ARun.goK 6 ?_
 simp only [W, seval, c121]
 refine ARun.loopW (fun a : Nat × Int => (envS 97 [(1, .d (.int .i64 d)), (2, .ptr N 0), (5, .d (.int .i64 a.2)), (6, .d (.int .i64 (a.1 : Int)))], ⟨B ++ [stB s], T⟩)) (fun a => a.1 ≤ s.cases.length ∧ -1 ≤ a.2 ∧ a.2 ≤ 60000 ∧ plusM a.2 (casR (stR n) d ((s.cases.take a.1).map CaT.int) (s.cases.drop a.1)) = plusM q0 (casR (stR n) d [] s.cases)) (fun a => s.cases.length - a.1) (0, q0) ⟨by simp, hq0, hq1, rfl⟩ ?_ rfl ?_
 ·skip
  refine Agree.env _ ?_
  simp only [agw, seval]
 rintro ⟨i, q⟩ ⟨g1, g2, g3, g4⟩ ih
 dsimp only at g1 g2 g3 g4 ih ⊢
 unfold stB at ih ⊢
 by_cases hlt : i < s.cases.length
 case neg =>
  have e1 : decide ((i : Int) < (s.cases.length : Int)) = false := decide_eq_false (by omega)
  rw [List.drop_eq_nil_of_le (by omega)] at g4
  have h5 : ∀ l, casR (stR n) d l [] = 0 := fun l => by unfold casR; rfl
  rw [h5, plusM_zero g2 g3] at g4
  refine ARun.goK (k := [_, _, _]) 60 ?_
  simp only [W, seval, c121, hn, e1]
  refine hend q g4 _ _ ?_ rfl
  refine Agree.env _ ?_
  simp only [agw, seval]
 have e1 : decide ((i : Int) < (s.cases.length : Int)) = true := decide_eq_true (by omega)
 have hwi := wrap_in ((i : Int) + 1) (by omega)
 rw [drop_get hlt] at g4
 have hgi : (s.cases.map caD)[i]? = some [.int .u64 s.cases[i].int, .sl (s.cases[i].body.map stD)] := by simp [hlt, caD_eq]
 obtain ⟨c, hc⟩ : ∃ c, s.cases[i] = c := ⟨_, rfl⟩
 have hcm : c ∈ s.cases := hc ▸ List.getElem_mem hlt
 have hcas : ∀ (seen : List Int) (l : List CaT), casR (stR n) d seen (c :: l) = plusM (if 60 < d + 1 then -1 else 1) (plusM (zM (!seen.contains c.int)) (plusM (sumM (fun s => stR n s (d + 2)) c.body) (casR (stR n) d (seen ++ [c.int]) l))) := fun _ _ => rfl
 rw [hc] at hgi
 rw [hc, hcas] at g4
 by_cases hd1 : 60 < d + 1
 ·have e2 := decide_eq_true hd1
  rw [if_pos hd1, bad_all] at g4
  rw [← g4, plusM_bad]
  refine ARun.goK (k := [_, _]) 60 ?_
  simp only [W, seval, c121, hn, e1, hw1, e2]
  refine ARun.ret Tryz.func121 rfl (Left.box ?_)
  exact ⟨rfl, rfl⟩
 have e2 := decide_eq_false hd1
 rw [if_neg hd1] at g4
 refine ARun.goK (k := [_, _]) 23 ?_
 simp only [W, seval, c121, hn, e1, hw1, e2]
 refine ARun.after [_] _ (fun _ : Unit => (envS 97 [(1, .d (.int .i64 d)), (2, .ptr N 0), (5, .d (.int .i64 q)), (6, .d (.int .i64 (i : Int)))], ⟨B ++ [stB s], T⟩)) (fun _ => ((s.cases.take i).map CaT.int).contains c.int = false) ?_ ?_
 ·rintro ⟨⟩ hs
  rw [hs] at g4
  have hz : zM (!false) = 0 := rfl
  have lS := sumM_le (fun s => stR n s (d + 2)) c.body
  have lp := plusM_in 1 (sumM (fun s => stR n s (d + 2)) c.body)
  have lq := plusM_in q (plusM 1 (sumM (fun s => stR n s (d + 2)) c.body))
  have ht : ((s.cases.take (i + 1)).map CaT.int) = (s.cases.take i).map CaT.int ++ [c.int] := by
   rw [List.take_succ_eq_append_getElem hlt, hc]
   simp
  rw [hz, zero_plusM (plusM_in _ _).1 (plusM_in _ _).2, ← plusM_assoc 1, ← plusM_assoc q, ← ht] at g4
  have hst := stms_ab n c.body (h3 c hcm) (d + 2) (by omega) (by omega) (B ++ [stB s]) T
  unfold stB at hst ⊢
  refine ARun.goK (k := [_]) 20 ?_
  simp only [W, seval, c121, hn, hw2, hgi, hlt]
  refine callS_fn hst ?_
  rintro _ _ ⟨rfl, rfl⟩
  refine ARun.goK (k := [_]) 2 ?_
  simp only [W, seval, c121, hn]
  refine callS_fn (plus_ab 1 _ (by omega) lS.2 _ _) ?_
  rintro _ _ ⟨rfl, rfl⟩
  refine ARun.goK (k := [_]) 2 ?_
  simp only [W, seval, c121, hn]
  refine callS_fn (plus_ab q _ g3 lp.2 _ _) ?_
  rintro _ _ ⟨rfl, rfl⟩
  refine ARun.goK (k := [_, _, _]) 12 ?_
  simp only [W, seval, c121, hn, hwi]
  refine ih (i + 1, plusM q (plusM 1 (sumM (fun s => stR n s (d + 2)) c.body))) ⟨by dsimp only; omega, lq.1, lq.2, g4⟩ (by dsimp only; omega) _ _ ?_ rfl
  refine Agree.env _ ?_
  simp only [agw, seval]
 intro K2 hend2
 unfold stB at hend2
 refine ARun.goK (k := [_]) 6 ?_
 simp only [W, seval, c121]
 refine ARun.loopW (fun j : Nat => (envS 97 [(1, .d (.int .i64 d)), (2, .ptr N 0), (5, .d (.int .i64 q)), (6, .d (.int .i64 (i : Int))), (7, .d (.int .i64 (j : Int)))], ⟨B ++ [stB s], T⟩)) (fun j => j ≤ i ∧ ((s.cases.take j).map CaT.int).contains c.int = false) (fun j => i - j) 0 ⟨by omega, rfl⟩ ?_ rfl ?_
 ·skip
  refine Agree.env _ ?_
  simp only [agw, seval]
 rintro j ⟨m1, m2⟩ ih2
 dsimp only at m1 m2 ih2 ⊢
 unfold stB at ih2 ⊢
 by_cases hj : j < i
 case neg =>
  have e3 : decide ((j : Int) < (i : Int)) = false := decide_eq_false (by omega)
  obtain rfl : j = i := by omega
  refine ARun.goK (k := [_, _, _]) 60 ?_
  simp only [W, seval, c121, hn, e3]
  refine hend2 () m2 _ _ ?_ rfl
  refine Agree.env _ ?_
  simp only [agw, seval]
 have e3 : decide ((j : Int) < (i : Int)) = true := decide_eq_true (by omega)
 have hwj := wrap_in ((j : Int) + 1) (by omega)
 have hjl : j < s.cases.length := by omega
 have hgj : (s.cases.map caD)[j]? = some [.int .u64 s.cases[j].int, .sl (s.cases[j].body.map stD)] := by simp [hjl, caD_eq]
 have ht : ((s.cases.take (j + 1)).map CaT.int) = (s.cases.take j).map CaT.int ++ [s.cases[j].int] := by
  rw [List.take_succ_eq_append_getElem hjl, List.map_append]
  rfl
 refine ARun.goK (k := [_, _]) 20 ?_
 simp only [W, seval, c121, hn, e3]
 refine ARun.draw (by kernel_rfl) (by kernel_rfl) (lexQ_ok 60 _ _ ?_)
 simp only [W, seval, c121, hn, hgj, hgi, hjl, hlt]
 cases he : decide (s.cases[j].int = c.int)
 case true =>
  have hct : ((s.cases.take i).map CaT.int).contains c.int = true := by
   rw [List.contains_iff_mem, ← of_decide_eq_true he]
   refine List.mem_map.2 ⟨s.cases[j], ?_, rfl⟩
   rw [List.mem_take_iff_getElem]
   exact ⟨j, by omega, rfl⟩
  have hz : zM (!true) = -1 := rfl
  rw [hct, hz, plusM_bad, bad_plusM, bad_plusM] at g4
  rw [← g4, plusM_bad]
  refine ARun.goK (k := [_, _, _]) 20 ?_
  simp only [W, seval, c121, hn, he]
  refine ARun.ret Tryz.func121 rfl (Left.box ?_)
  exact ⟨rfl, rfl⟩
 have hne : (c.int == s.cases[j].int) = false := beq_eq_false_iff_ne.2 fun e => of_decide_eq_false he e.symm
 have hm : ((s.cases.take (j + 1)).map CaT.int).contains c.int = false := by
  rw [ht]
  simp only [List.contains_append, m2, Bool.false_or, List.contains_cons, List.contains_nil, hne, Bool.or_false]
 refine ARun.goK (k := [_, _, _]) 20 ?_
 simp only [W, seval, c121, hn, he, hwj]
 refine ih2 (j + 1) ⟨by omega, hm⟩ (by omega) _ _ ?_ rfl
 refine Agree.env _ ?_
 simp only [agw, seval]
set_option maxHeartbeats 8000000 in
theorem stm_step (n : Nat) (s : StT) (h1 : ∀ x ∈ s.body, StmR n x) (h2 : ∀ x ∈ s.els, StmR n x) (h3 : ∀ c ∈ s.cases, ∀ x ∈ c.body, StmR n x) : StmR (n + 1) s := by
 intro d B T hd0 hd1
 obtain ⟨N, hn⟩ : ∃ N, B.length = N := ⟨_, rfl⟩
 have hR : stR (n + 1) s d = plusM (if 60 < d then -1 else 1) (plusM (zM (shapeR s && decide (s.cases.length ≤ 40))) (restR (stR n) s d)) := rfl
 rw [hR]
 unfold stV
 refine b121.go 6 rfl fun hsm => ?_
 simp only [smw] at hsm
 simp only [W, seval, c121, hn]
 change ARun _ _ _ _ _ _ ⟨B ++ [stB s], T⟩ _
 refine ARun.after [_] _ (fun _ : Unit => (envS 97 [(1, .d (.int .i64 d)), (2, .ptr N 0)], ⟨B ++ [stB s], T⟩)) (fun _ => ¬ 60 < d ∧ (shapeR s && decide (s.cases.length ≤ 40)) = true) ?_ ?_
 case refine_2 =>
  intro K' hend
  unfold stB at hend ⊢
  by_cases hd : 60 < d
  ·have e := decide_eq_true hd
   rw [if_pos hd, plusM_bad]
   refine ARun.goK 60 ?_
   simp only [W, seval, c121, hn, e]
   refine ARun.ret Tryz.func121 rfl (Left.box ?_)
   exact ⟨rfl, rfl⟩
  have e := decide_eq_false hd
  have hsh := shape_ab s (B ++ [stB s]) T
  unfold stV stB at hsh
  refine ARun.goK 60 ?_
  simp only [W, seval, c121, hn, e]
  refine callS_fn hsh ?_
  rintro _ _ ⟨rfl, rfl⟩
  have hz : zM false = -1 := rfl
  cases hb : shapeR s
  ·rw [Bool.false_and, hz, plusM_bad, bad_plusM]
   refine ARun.goK 60 ?_
   simp only [W, seval, c121, hn]
   refine ARun.ret Tryz.func121 rfl (Left.box ?_)
   exact ⟨rfl, rfl⟩
  rw [hb] at hend
  by_cases h40 : s.cases.length ≤ 40
  ·have e4 : decide ((40 : Int) < (s.cases.length : Int)) = false := decide_eq_false (by omega)
   refine ARun.goK 60 ?_
   simp only [W, seval, c121, hn, e4]
   refine hend () ⟨hd, by rw [decide_eq_true h40]; rfl⟩ _ _ ?_ rfl
   refine Agree.env _ ?_
   simp only [agw, seval]
  ·have e4 : decide ((40 : Int) < (s.cases.length : Int)) = true := decide_eq_true (by omega)
   rw [decide_eq_false h40, Bool.and_false, hz, plusM_bad, bad_plusM]
   refine ARun.goK 60 ?_
   simp only [W, seval, c121, hn, e4]
   refine ARun.ret Tryz.func121 rfl (Left.box ?_)
   exact ⟨rfl, rfl⟩
 rintro ⟨⟩ ⟨hd, hs⟩
 have hc40 : s.cases.length ≤ 40 := of_decide_eq_true (Bool.and_eq_true_iff.1 hs).2
 have hz : zM true = 0 := rfl
 have hw1 := wrap_in (d + 1) (by omega)
 have htl : restR (stR n) s d = plusM (if s.kind = 1 then tyR s.type (d + 1) else 0) (plusM (casR (stR n) d [] s.cases) (tailR n s d)) := rfl
 rw [if_neg hd, hs, hz, zero_plusM (by rw [htl]; exact (plusM_in _ _).1) (by rw [htl]; exact (plusM_in _ _).2), htl, ← plusM_assoc, ← plusM_assoc]
 refine ARun.go 5 ?_
 simp only [W, seval, c121]
 refine ARun.after [_] _ (fun a : Int => (envS 97 [(1, .d (.int .i64 d)), (2, .ptr N 0), (5, .d (.int .i64 a))], ⟨B ++ [stB s], T⟩)) (fun a => a = plusM 1 (if s.kind = 1 then tyR s.type (d + 1) else 0)) ?_ ?_
 ·rintro a rfl
  exact stm_c n s h1 h2 h3 hc40 d _ hd0 (by omega) (plusM_in _ _).1 (plusM_in _ _).2 N B T hn
 intro K' hend
 unfold stB at hend ⊢
 by_cases hk : s.kind = 1
 ·have ek := decide_eq_true hk
  have hty := typR_ab s.type (d + 1) (B ++ [stB s]) T (by omega) (by omega)
  have hle := tyR_le s.type (d + 1)
  unfold tyV stB at hty
  refine ARun.goK 40 ?_
  simp only [W, seval, c121, hn, ek, hw1]
  refine callS_fn hty ?_
  rintro _ _ ⟨rfl, rfl⟩
  refine ARun.goK 40 ?_
  simp only [W, seval, c121, hn]
  refine callS_fn (plus_ab 1 _ (by omega) hle _ _) ?_
  rintro _ _ ⟨rfl, rfl⟩
  refine ARun.goK 40 ?_
  simp only [W, seval, c121, hn]
  refine hend _ (by rw [if_pos hk]) _ _ ?_ rfl
  refine Agree.env _ ?_
  simp only [agw, seval]
 ·have ek := decide_eq_false hk
  refine ARun.goK 40 ?_
  simp only [W, seval, c121, hn, ek]
  refine hend 1 (by rw [if_neg hk]; rfl) _ _ ?_ rfl
  refine Agree.env _ ?_
  simp only [agw, seval]
theorem stmR_ab : ∀ (n : Nat) (s : StT), Dp n s → StmR n s
 | 0, _, h => h.elim
 | n + 1, s, h => stm_step n s (fun x hx => stmR_ab n x (h.1 x hx)) (fun x hx => stmR_ab n x (h.2.1 x hx)) (fun k hk x hx => stmR_ab n x (h.2.2 k hk x hx))
def c90 := by
 have c := KK_of Tryz.f90 (by conv => lhs; cbv)
 dsimp only [KK, KxP, doO, opO, List.map_cons, List.map_nil, List.toList_toArray] at c
 exact c
theorem b90 : FnIs Tryz.prog 90 Tryz.f90 39 := ⟨Tryz.func90, by kernel_rfl⟩
def c55 := by
 have c := KK_of Tryz.f55 (by conv => lhs; cbv)
 dsimp only [KK, KxP, doO, opO, List.map_cons, List.map_nil, List.toList_toArray] at c
 exact c
theorem b55 : FnIs Tryz.prog 55 Tryz.f55 88 := ⟨Tryz.func55, by kernel_rfl⟩
def c17 := by
 have c := KK_of Tryz.f17 (by conv => lhs; cbv)
 dsimp only [KK, KxP, doO, opO, List.map_cons, List.map_nil, List.toList_toArray] at c
 exact c
theorem b17 : FnIs Tryz.prog 17 Tryz.f17 6 := ⟨Tryz.func17, by kernel_rfl⟩
def paS1 (x : PaT) : Int := plusM 1 (tyR x.type 0)
set_option maxHeartbeats 8000000 in
theorem paramsR_ab (most : Nat) (hmost : most ≤ 1000) (l : List PaT) (B : List (List V)) (T : List (Nat × Nat)) : AFn Tryz.prog TabI 90 [.d (.sl (l.map paD)), .d (.int .i64 (most : Int))] ⟨B, T⟩ (Same (.d (.int .i64 (paR most l))) ⟨B, T⟩) := by
 obtain ⟨t, ht⟩ : ∃ t, T.length = t := ⟨_, rfl⟩
 have hP : paR most l = plusM (sumM paS1 l) (zM (decide (l.length ≤ most) && diffS l.length (l.map PaT.name))) := rfl
 have hz : zM false = -1 := rfl
 have hz1 : zM true = 0 := rfl
 have hsl := sumM_le paS1 l
 rw [hP]
 by_cases hm : l.length ≤ most
 case neg =>
  have e : decide ((most : Int) < (l.length : Int)) = true := decide_eq_true (by omega)
  rw [decide_eq_false hm, Bool.false_and, hz, bad_plusM]
  refine b90.go 40 rfl fun hsm => ?_
  simp only [smw] at hsm
  simp only [W, seval, c90, e]
  refine ARun.ret Tryz.func90 rfl (Left.none ?_)
  exact ⟨rfl, rfl⟩
 have e : decide ((most : Int) < (l.length : Int)) = false := decide_eq_false (by omega)
 rw [decide_eq_true hm, Bool.true_and]
 refine b90.go 40 rfl fun hsm => ?_
 simp only [smw] at hsm
 simp only [W, seval, c90, e]
 refine ARun.token 5 [] (by rfl) 1 (by omega) rfl ?_
 simp only [envS_put, ht, List.length_nil]
 refine ARun.loopW (fun a : Nat × Int => (envS 39 [(0, .d (.sl (l.map paD))), (5, .sl (ssD ((l.take a.1).map PaT.name)) (.own t)), (6, .d (.int .i64 a.2)), (7, .d (.int .i64 (a.1 : Int)))], ⟨B, T ++ [(a.1, 1)]⟩)) (fun a => a.1 ≤ l.length ∧ -1 ≤ a.2 ∧ a.2 ≤ 60000 ∧ plusM a.2 (sumM paS1 (l.drop a.1)) = sumM paS1 l) (fun a => l.length - a.1) (0, 0) ⟨by simp, by decide, by decide, zero_plusM hsl.1 hsl.2⟩ ?_ rfl ?_
 ·skip
  refine Agree.env _ ?_
  simp only [agw, seval]
  try rfl
 rintro ⟨i, q⟩ ⟨h1, h2, h3, h4⟩ ih
 dsimp only at h1 h2 h3 h4 ih ⊢
 by_cases hlt : i < l.length
 case neg =>
  have e1 : decide ((i : Int) < (l.length : Int)) = false := decide_eq_false (by omega)
  obtain rfl : i = l.length := by omega
  rw [List.drop_eq_nil_of_le (by omega)] at h4
  have h5 : sumM paS1 [] = 0 := rfl
  rw [h5, plusM_zero h2 h3] at h4
  rw [← h4]
  have hall : l.take l.length = l := List.take_length
  rw [hall]
  have hid := AFn.sameW (idents_ab (l.map PaT.name) [] []).only (args := [.sl (ssD (l.map PaT.name)) (.own t)]) (by simp [wkL, wk]) rfl ⟨B, T ++ [(l.length, 1)]⟩
  rw [List.length_map] at hid
  refine ARun.go 60 ?_
  simp only [W, seval, c90, e1]
  refine callS_fn hid ?_
  rintro _ _ ⟨rfl, rfl⟩
  cases hb : diffS l.length (l.map PaT.name)
  ·rw [hz, bad_plusM]
   refine ARun.go 60 ?_
   simp only [W, seval, c90]
   refine ARun.ret Tryz.func90 rfl (Left.tok ?_)
   exact ⟨rfl, rfl⟩
  ·rw [hz1, plusM_zero h2 h3]
   refine ARun.go 60 ?_
   simp only [W, seval, c90]
   refine ARun.ret Tryz.func90 rfl (Left.tok ?_)
   exact ⟨rfl, rfl⟩
 have e1 : decide ((i : Int) < (l.length : Int)) = true := decide_eq_true (by omega)
 have hwi := wrap_in ((i : Int) + 1) (by omega)
 have hg : (l.map paD)[i]? = some (paD l[i]) := by simp [hlt]
 have htk : (l.take (i + 1)).map PaT.name = (l.take i).map PaT.name ++ [l[i].name] := by
  rw [List.take_succ_eq_append_getElem hlt, List.map_append]
  rfl
 rw [sumM_drop _ l i hlt, ← plusM_assoc] at h4
 obtain ⟨y, hyy⟩ : ∃ y, l[i] = y := ⟨_, rfl⟩
 rw [hyy] at hg h4 htk
 rw [paD_eq] at hg
 have hty := typR_ab y.type 0 B (T ++ [(i + 1, 1)]) (by omega) (by omega)
 unfold tyV at hty
 have lt := tyR_le y.type 0
 have lp : paS1 y ≤ 60000 := (plusM_in _ _).2
 have hcap : (i + 1) * 16 ≤ 140737488355328 := by omega
 have hsn : ssD ((l.take i).map PaT.name) ++ [[D.str y.name]] = ssD ((l.take (i + 1)).map PaT.name) := by rw [htk]; exact ssD_snoc _ _
 have hsn2 : (ssD ((l.take i).map PaT.name)).length = i := by simp [ssD]; omega
 refine ARun.go 60 ?_
 simp only [W, seval, c90, e1, hg, hlt, ht, hsn2, mapD_nil, mapD_cons, Nat.reduceMul, hcap, hsn, ss1]
 refine callS_fn hty ?_
 rintro _ _ ⟨rfl, rfl⟩
 refine ARun.go 20 ?_
 simp only [W, seval, c90]
 refine callS_fn (plus_ab 1 _ (by omega) lt _ _) ?_
 rintro _ _ ⟨rfl, rfl⟩
 refine ARun.go 20 ?_
 simp only [W, seval, c90]
 refine callS_fn (plus_ab q _ h3 lp _ _) ?_
 rintro _ _ ⟨rfl, rfl⟩
 have hpi := plusM_in q (paS1 y)
 refine ARun.go 20 ?_
 simp only [W, seval, c90, hwi]
 refine ih (i + 1, plusM q (paS1 y)) ⟨by dsimp only; omega, hpi.1, hpi.2, h4⟩ (by dsimp only; omega) _ _ ?_ rfl
 refine Agree.env _ ?_
 simp only [agw, seval]
 try rfl
def pB (pr : PrT) : List V := [.d (.sl (pr.structs.map suD)), .d (.sl (pr.funcs.map fuD))]
def fB (f : FuT) : List V := [.d (.str f.name), .d (.sl (f.params.map paD)), .d (.sl (f.results.map tyD)), .d (.sl (f.body.map stD))]
theorem fncR_bad (n : Nat) (f : FuT) (h : identS f.name = false ∨ (decide (1 ≤ f.results.length) && decide (f.results.length ≤ 20)) = false) : fncR n f = -1 := by
 have hz : zM false = -1 := rfl
 unfold fncR
 rcases h with h | h
 ·rw [h, hz, plusM_bad, bad_plusM]
 ·rw [h, hz, plusM_bad, bad_plusM, bad_plusM, bad_plusM]
theorem fncR_ok (n : Nat) (f : FuT) (h : identS f.name = true) (h2 : (decide (1 ≤ f.results.length) && decide (f.results.length ≤ 20)) = true) (q : Int) : plusM q (fncR n f) = plusM (plusM (plusM q (plusM 1 (paR 20 f.params))) (sumM (fun t => tyR t 0) f.results)) (sumM (fun s => stR n s 0) f.body) := by
 have hz : zM true = 0 := rfl
 unfold fncR
 rw [h, h2, hz, zero_plusM (plusM_in _ _).1 (plusM_in _ _).2, zero_plusM (plusM_in _ _).1 (plusM_in _ _).2]
 simp only [plusM_assoc]
set_option maxHeartbeats 8000000 in
theorem prog_b (n : Nat) (pr : PrT) (hst : ∀ f ∈ pr.funcs, ∀ x ∈ f.body, StmR n x) (q0 : Int) (hq0 : -1 ≤ q0) (hq1 : q0 ≤ 60000) (N : Nat) (B : List (List V)) (T : List (Nat × Nat)) (hn : B.length = N) (hfl : pr.funcs.length ≤ 9223372036854775807) :
 ARun Tryz.prog TabI (N, T.length) 55 [.code (kF Tryz.f55 27)] (envS 88 [(1, .ptr N 0), (3, .d (.int .i64 q0))]) ⟨B ++ [pB pr], T⟩ (Ab.Left ⟨B, T⟩ (Same (.d (.int .i64 (plusM q0 (sumM (fncR n) pr.funcs)))) ⟨B, T⟩)) := by
 have hN1 : N < N + 1 := by omega
 have hN2 : ¬ N + 1 < N + 1 := by omega
 refine ARun.go 1 ?_
 simp only [W, seval, c55]
 refine ARun.after [_] _ (fun a : Int => (envS 88 [(1, .ptr N 0), (3, .d (.int .i64 a))], ⟨B ++ [pB pr], T⟩)) (fun a => a = plusM q0 (sumM (fncR n) pr.funcs)) ?_ ?_
 ·rintro a rfl
  refine ARun.go 20 ?_
  simp only [W, seval, c55, hn]
  refine ARun.ret Tryz.func55 rfl (Left.box ?_)
  exact ⟨rfl, rfl⟩
 intro K' hend
 unfold pB at hend ⊢
 refine ARun.goK 6 ?_
 simp only [W, seval, c55]
 refine ARun.fits fun hf => ?_
 refine ARun.loopB (fun a : Nat × Int => (envS 88 [(1, .ptr N 0), (3, .d (.int .i64 a.2)), (5, .d (.int .i64 (a.1 : Int)))], ⟨B ++ [pB pr], T⟩)) (fun a => a.1 ≤ pr.funcs.length ∧ -1 ≤ a.2 ∧ a.2 ≤ 60000 ∧ plusM a.2 (sumM (fncR n) (pr.funcs.drop a.1)) = plusM q0 (sumM (fncR n) pr.funcs)) (fun a => pr.funcs.length - a.1) (0, q0) ⟨by simp, hq0, hq1, rfl⟩ ?_ rfl ?_
 ·skip
  refine Agree.env _ ?_
  simp only [agw, seval]
 rintro ⟨i, q⟩ ⟨g1, g2, g3, g4⟩ ih
 dsimp only at g1 g2 g3 g4 ih ⊢
 by_cases hlt : i < pr.funcs.length
 case neg =>
  have e1 : decide ((i : Int) < (pr.funcs.length : Int)) = false := decide_eq_false (by omega)
  rw [List.drop_eq_nil_of_le (by omega)] at g4
  have h5 : sumM (fncR n) [] = 0 := rfl
  rw [h5, plusM_zero g2 g3] at g4
  unfold pB
  refine ARun.goK (k := [_, _, _]) 60 ?_
  simp only [W, seval, c55, hn, e1]
  refine hend q g4 _ _ ?_ rfl
  refine Agree.env _ ?_
  simp only [agw, seval]
 have e1 : decide ((i : Int) < (pr.funcs.length : Int)) = true := decide_eq_true (by omega)
 have hwi := wrap_in ((i : Int) + 1) (by omega)
 have hg : (pr.funcs.map fuD)[i]? = some (fuD pr.funcs[i]) := by simp [hlt]
 rw [sumM_drop _ pr.funcs i hlt, ← plusM_assoc] at g4
 have hfst := hst pr.funcs[i] (List.getElem_mem hlt)
 obtain ⟨f, hff⟩ : ∃ f, pr.funcs[i] = f := ⟨_, rfl⟩
 rw [hff] at hg g4 hfst
 rw [fuD_eq] at hg
 unfold pB
 refine ARun.goK (k := [_, _]) 60 ?_
 simp only [W, seval, c55, hn, e1, hg, hlt]
 refine callS_fn (identR_ab f.name _ _) ?_
 rintro _ _ ⟨rfl, rfl⟩
 have r1 : decide ((f.results.length : Int) < 1) = !decide (1 ≤ f.results.length) := by rw [← decide_not]; exact decide_eq_decide.2 (by omega)
 have r2 : decide ((20 : Int) < (f.results.length : Int)) = !decide (f.results.length ≤ 20) := by rw [← decide_not]; exact decide_eq_decide.2 (by omega)
 cases hid : identS f.name
 ·rw [fncR_bad n f (.inl hid), bad_plusM, plusM_bad] at g4
  rw [← g4]
  refine ARun.goK (k := [_, _]) 60 ?_
  simp only [W, seval, c55, hn]
  refine ARun.ret Tryz.func55 rfl (Left.box ?_)
  exact ⟨rfl, rfl⟩
 cases c1 : decide (1 ≤ f.results.length)
 ·rw [c1] at r1
  rw [fncR_bad n f (.inr (by rw [c1]; rfl)), bad_plusM, plusM_bad] at g4
  rw [← g4]
  refine ARun.goK (k := [_, _]) 60 ?_
  simp only [W, seval, c55, hn, r1, Bool.not_false]
  refine ARun.ret Tryz.func55 rfl (Left.box ?_)
  exact ⟨rfl, rfl⟩
 cases c2 : decide (f.results.length ≤ 20)
 ·rw [c1] at r1
  rw [c2] at r2
  rw [fncR_bad n f (.inr (by rw [c1, c2]; rfl)), bad_plusM, plusM_bad] at g4
  rw [← g4]
  refine ARun.goK (k := [_, _]) 60 ?_
  simp only [W, seval, c55, hn, r1, r2, Bool.not_false, Bool.not_true]
  refine ARun.ret Tryz.func55 rfl (Left.box ?_)
  exact ⟨rfl, rfl⟩
 rw [c1] at r1
 rw [c2] at r2
 rw [fncR_ok n f hid (by rw [c1, c2]; rfl)] at g4
 have hpa := paramsR_ab 20 (by omega) f.params
 have hc20 : ((20 : Nat) : Int) = 20 := rfl
 rw [hc20] at hpa
 have lp : paR 20 f.params ≤ 60000 := (plusM_in _ _).2
 have lp1 := plusM_in 1 (paR 20 f.params)
 have lq1 := plusM_in q (plusM 1 (paR 20 f.params))
 refine ARun.goK (k := [_, _, _]) 60 ?_
 simp only [W, seval, c55, hn, r1, r2, Bool.not_false, Bool.not_true]
 refine callS_fn (hpa _ _) ?_
 rintro _ _ ⟨rfl, rfl⟩
 refine ARun.goK (k := [_]) 2 ?_
 simp only [W, seval, c55, hn]
 refine callS_fn (plus_ab 1 _ (by omega) lp _ _) ?_
 rintro _ _ ⟨rfl, rfl⟩
 refine ARun.goK (k := [_]) 2 ?_
 simp only [W, seval, c55, hn]
 refine callS_fn (plus_ab q _ g3 lp1.2 _ _) ?_
 rintro _ _ ⟨rfl, rfl⟩
 refine ARun.goK (k := [_, _]) 3 ?_
 simp only [W, seval, c55, hn]
 obtain ⟨q1, hq1e⟩ : ∃ z, plusM q (plusM 1 (paR 20 f.params)) = z := ⟨_, rfl⟩
 rw [hq1e] at g4 lq1
 rw [hq1e]
 have lty := sumM_le (fun t => tyR t 0) f.results
 have lst := sumM_le (fun s => stR n s 0) f.body
 refine ARun.after [_] _ (fun a : Int => (envS 88 [(1, .ptr N 0), (3, .d (.int .i64 a)), (5, .d (.int .i64 (i : Int))), (6, .ptr (N + 1) 0)], ⟨B ++ [pB pr, fB f], T⟩)) (fun a => a = plusM q1 (sumM (fun t => tyR t 0) f.results)) ?_ ?_
 ·rintro a rfl
  have hms := stms_ab n f.body hfst 0 (by omega) (by omega) (B ++ [pB pr, fB f]) T
  have l2 := plusM_in q1 (sumM (fun t => tyR t 0) f.results)
  have l3 := plusM_in (plusM q1 (sumM (fun t => tyR t 0) f.results)) (sumM (fun s => stR n s 0) f.body)
  unfold pB fB at hms ⊢
  refine ARun.goK (k := [_]) 20 ?_
  simp only [W, seval, c55, hn]
  refine callS_fn hms ?_
  rintro _ _ ⟨rfl, rfl⟩
  refine ARun.goK (k := [_]) 2 ?_
  simp only [W, seval, c55, hn]
  refine callS_fn (plus_ab _ _ l2.2 lst.2 _ _) ?_
  rintro _ _ ⟨rfl, rfl⟩
  refine ARun.goK (k := [_, _, _]) 12 ?_
  simp only [W, seval, c55, hn, hwi]
  have hap : ∀ x : List V, B ++ [pB pr, x] = (B ++ [pB pr]) ++ [x] := fun x => by simp
  unfold pB at hap ih
  rw [hap]
  refine ih (i + 1, plusM (plusM q1 (sumM (fun t => tyR t 0) f.results)) (sumM (fun s => stR n s 0) f.body)) ⟨by dsimp only; omega, l3.1, l3.2, g4⟩ (by dsimp only; omega) _ _ _ _ rfl ⟨by simp; omega, Nat.le_refl _⟩ hf ?_
  refine AgreeF.env _ ?_
  simp only [agf, seval, hn, List.length_append, List.length_cons, List.length_nil, Nat.zero_add, hN1, hN2]
 intro K2 hend2
 unfold pB fB at hend2
 refine ARun.goK (k := [_]) 6 ?_
 simp only [W, seval, c55]
 refine ARun.loopW (fun a : Nat × Int => (envS 88 [(1, .ptr N 0), (3, .d (.int .i64 a.2)), (5, .d (.int .i64 (i : Int))), (6, .ptr (N + 1) 0), (7, .d (.int .i64 (a.1 : Int)))], ⟨B ++ [pB pr, fB f], T⟩)) (fun a => a.1 ≤ f.results.length ∧ -1 ≤ a.2 ∧ a.2 ≤ 60000 ∧ plusM a.2 (sumM (fun t => tyR t 0) (f.results.drop a.1)) = plusM q1 (sumM (fun t => tyR t 0) f.results)) (fun a => f.results.length - a.1) (0, q1) ⟨by simp, lq1.1, lq1.2, rfl⟩ ?_ rfl ?_
 ·skip
  refine Agree.env _ ?_
  simp only [agw, seval]
 rintro ⟨j, r⟩ ⟨m1, m2, m3, m4⟩ ih2
 dsimp only at m1 m2 m3 m4 ih2 ⊢
 unfold pB fB at ih2 ⊢
 by_cases hj : j < f.results.length
 case neg =>
  have e3 : decide ((j : Int) < (f.results.length : Int)) = false := decide_eq_false (by omega)
  rw [List.drop_eq_nil_of_le (by omega)] at m4
  have h5 : sumM (fun t => tyR t 0) [] = 0 := rfl
  rw [h5, plusM_zero m2 m3] at m4
  refine ARun.goK (k := [_, _, _]) 60 ?_
  simp only [W, seval, c55, hn, e3]
  refine hend2 r m4 _ _ ?_ rfl
  refine Agree.env _ ?_
  simp only [agw, seval]
 have e3 : decide ((j : Int) < (f.results.length : Int)) = true := decide_eq_true (by omega)
 have hwj := wrap_in ((j : Int) + 1) (by have := of_decide_eq_true c2; omega)
 have hgj : (f.results.map tyD)[j]? = some (tyD f.results[j]) := by simp [hj]
 rw [sumM_drop _ f.results j hj, ← plusM_assoc] at m4
 obtain ⟨t, htt⟩ : ∃ t, f.results[j] = t := ⟨_, rfl⟩
 rw [htt] at hgj m4
 rw [tyD_eq] at hgj
 have hty := typR_ab t 0
 unfold tyV at hty
 have ltt := tyR_le t 0
 have lrt := plusM_in r (tyR t 0)
 refine ARun.goK (k := [_, _]) 30 ?_
 simp only [W, seval, c55, hn, e3, hgj, hj]
 refine callS_fn (hty _ _ (by omega) (by omega)) ?_
 rintro _ _ ⟨rfl, rfl⟩
 refine ARun.goK (k := [_]) 2 ?_
 simp only [W, seval, c55, hn]
 refine callS_fn (plus_ab r _ m3 ltt _ _) ?_
 rintro _ _ ⟨rfl, rfl⟩
 refine ARun.goK (k := [_, _, _]) 12 ?_
 simp only [W, seval, c55, hn, hwj]
 refine ih2 (j + 1, plusM r (tyR t 0)) ⟨by dsimp only; omega, lrt.1, lrt.2, m4⟩ (by dsimp only; omega) _ _ ?_ rfl
 refine Agree.env _ ?_
 simp only [agw, seval]
theorem suR_bad (x : SuT) (h : identS x.name = false) : suR x = -1 := by
 have hz : zM false = -1 := rfl
 unfold suR
 rw [h, hz, plusM_bad, bad_plusM]
theorem suR_ok (x : SuT) (h : identS x.name = true) : suR x = plusM 1 (paR 60 x.fields) := by
 have hz : zM true = 0 := rfl
 have hp : -1 ≤ paR 60 x.fields ∧ paR 60 x.fields ≤ 60000 := plusM_in _ _
 unfold suR
 rw [h, hz, zero_plusM hp.1 hp.2]
set_option maxHeartbeats 8000000 in
theorem progR_ab (n : Nat) (pr : PrT) (hst : ∀ f ∈ pr.funcs, ∀ x ∈ f.body, StmR n x) (B : List (List V)) (T : List (Nat × Nat)) : AFn Tryz.prog TabI 55 [prV pr] ⟨B, T⟩ (Same (.d (.int .i64 (prR n pr))) ⟨B, T⟩) := by
 obtain ⟨N, hn⟩ : ∃ N, B.length = N := ⟨_, rfl⟩
 have hR : prR n pr = plusM (sumM suR pr.structs) (sumM (fncR n) pr.funcs) := rfl
 have hsu := sumM_le suR pr.structs
 rw [hR]
 unfold prV
 refine b55.go 10 rfl fun hsm => ?_
 simp only [smw] at hsm
 simp only [W, seval, c55, hn]
 change ARun _ _ _ _ _ _ ⟨B ++ [pB pr], T⟩ _
 refine ARun.after [_] _ (fun a : Int => (envS 88 [(1, .ptr N 0), (3, .d (.int .i64 a))], ⟨B ++ [pB pr], T⟩)) (fun a => a = sumM suR pr.structs) ?_ ?_
 ·rintro a rfl
  exact prog_b n pr hst _ hsu.1 hsu.2 N B T hn (by omega)
 intro K' hend
 unfold pB at hend ⊢
 refine ARun.goK 6 ?_
 simp only [W, seval, c55]
 refine ARun.loopW (fun a : Nat × Int => (envS 88 [(1, .ptr N 0), (3, .d (.int .i64 a.2)), (4, .d (.int .i64 (a.1 : Int)))], ⟨B ++ [pB pr], T⟩)) (fun a => a.1 ≤ pr.structs.length ∧ -1 ≤ a.2 ∧ a.2 ≤ 60000 ∧ plusM a.2 (sumM suR (pr.structs.drop a.1)) = sumM suR pr.structs) (fun a => pr.structs.length - a.1) (0, 0) ⟨by simp, by decide, by decide, zero_plusM hsu.1 hsu.2⟩ ?_ rfl ?_
 ·skip
  refine Agree.env _ ?_
  simp only [agw, seval]
 rintro ⟨i, q⟩ ⟨g1, g2, g3, g4⟩ ih
 dsimp only at g1 g2 g3 g4 ih ⊢
 unfold pB at ih ⊢
 by_cases hlt : i < pr.structs.length
 case neg =>
  have e1 : decide ((i : Int) < (pr.structs.length : Int)) = false := decide_eq_false (by omega)
  rw [List.drop_eq_nil_of_le (by omega)] at g4
  have h5 : sumM suR [] = 0 := rfl
  rw [h5, plusM_zero g2 g3] at g4
  refine ARun.goK (k := [_, _, _]) 60 ?_
  simp only [W, seval, c55, hn, e1]
  refine hend q g4 _ _ ?_ rfl
  refine Agree.env _ ?_
  simp only [agw, seval]
 have e1 : decide ((i : Int) < (pr.structs.length : Int)) = true := decide_eq_true (by omega)
 have hwi := wrap_in ((i : Int) + 1) (by omega)
 have hg : (pr.structs.map suD)[i]? = some (suD pr.structs[i]) := by simp [hlt]
 rw [sumM_drop _ pr.structs i hlt, ← plusM_assoc] at g4
 obtain ⟨x, hxx⟩ : ∃ x, pr.structs[i] = x := ⟨_, rfl⟩
 rw [hxx] at hg g4
 rw [suD_eq] at hg
 refine ARun.goK (k := [_, _]) 60 ?_
 simp only [W, seval, c55, hn, e1, hg, hlt]
 refine callS_fn (identR_ab x.name _ _) ?_
 rintro _ _ ⟨rfl, rfl⟩
 cases hid : identS x.name
 ·rw [suR_bad x hid, bad_plusM, plusM_bad] at g4
  rw [← g4, plusM_bad]
  refine ARun.goK (k := [_, _]) 60 ?_
  simp only [W, seval, c55, hn]
  refine ARun.ret Tryz.func55 rfl (Left.box ?_)
  exact ⟨rfl, rfl⟩
 rw [suR_ok x hid] at g4
 have hpa := paramsR_ab 60 (by omega) x.fields
 have hc60 : ((60 : Nat) : Int) = 60 := rfl
 rw [hc60] at hpa
 have lp : paR 60 x.fields ≤ 60000 := (plusM_in _ _).2
 have lp1 := plusM_in 1 (paR 60 x.fields)
 have lq1 := plusM_in q (plusM 1 (paR 60 x.fields))
 refine ARun.goK (k := [_, _, _]) 60 ?_
 simp only [W, seval, c55, hn, hg, hlt]
 refine callS_fn (hpa _ _) ?_
 rintro _ _ ⟨rfl, rfl⟩
 refine ARun.goK (k := [_]) 2 ?_
 simp only [W, seval, c55, hn]
 refine callS_fn (plus_ab 1 _ (by omega) lp _ _) ?_
 rintro _ _ ⟨rfl, rfl⟩
 refine ARun.goK (k := [_]) 2 ?_
 simp only [W, seval, c55, hn]
 refine callS_fn (plus_ab q _ g3 lp1.2 _ _) ?_
 rintro _ _ ⟨rfl, rfl⟩
 refine ARun.goK (k := [_, _, _]) 12 ?_
 simp only [W, seval, c55, hn, hwi]
 refine ih (i + 1, plusM q (plusM 1 (paR 60 x.fields))) ⟨by dsimp only; omega, lq1.1, lq1.2, g4⟩ (by dsimp only; omega) _ _ ?_ rfl
 refine Agree.env _ ?_
 simp only [agw, seval]
set_option maxHeartbeats 4000000 in
theorem rightR_ab (n : Nat) (pr : PrT) (hst : ∀ f ∈ pr.funcs, ∀ x ∈ f.body, StmR n x) (B : List (List V)) (T : List (Nat × Nat)) : AFn Tryz.prog TabI 17 [prV pr] ⟨B, T⟩ (Same (.d (.bool (decide (0 ≤ prR n pr)))) ⟨B, T⟩) := by
 obtain ⟨N, hn⟩ : ∃ N, B.length = N := ⟨_, rfl⟩
 have hp := progR_ab n pr hst
 unfold prV at hp ⊢
 refine b17.go 40 rfl fun _ => ?_
 simp only [W, seval, c17, hn]
 refine callS_fn (hp _ _) ?_
 rintro _ _ ⟨rfl, rfl⟩
 refine ARun.go 40 ?_
 simp only [W, seval, c17, hn]
 refine ARun.ret Tryz.func17 rfl (Left.box ?_)
 exact ⟨rfl, rfl⟩
noncomputable def rgR (p : PrT) : Bool := decide (0 ≤ prR (SizeOf.sizeOf p.funcs) p)
theorem rgR_ab (p : PrT) (B : List (List V)) (T : List (Nat × Nat)) : AFn Tryz.prog TabI 17 [prV p] ⟨B, T⟩ (Same (.d (.bool (rgR p))) ⟨B, T⟩) := by
 refine rightR_ab (SizeOf.sizeOf p.funcs) p (fun f hf x hx => stmR_ab _ x (Dp.of_size _ x ?_)) B T
 have h1 := List.sizeOf_lt_of_mem hf
 have h2 := List.sizeOf_lt_of_mem hx
 have h3 : SizeOf.sizeOf f.body < SizeOf.sizeOf f := by cases f; simp only [FuT.mk.sizeOf_spec]; omega
 omega
def c8 := by
 have c := KK_of Tryz.f8 (by conv => lhs; cbv)
 dsimp only [KK, KxP, doO, opO, List.map_cons, List.map_nil, List.toList_toArray] at c
 exact c
theorem b8 : FnIs Tryz.prog 8 Tryz.f8 149 := ⟨Tryz.func8, by kernel_rfl⟩
set_option maxHeartbeats 2000000 in
theorem fields_run {p : PrT} {z : Nat × Nat} {R : V → Mem → Prop} {K' : List Item} {i : Nat} {x : SuT} {s a : List UInt8} {env : List V} (hi : i < p.structs.length) (hx : p.structs[i] = x) (hok : ∀ y ∈ x.fields, OkPa y) (ha : s ++ flT x.fields = a) (hb : a.length ≤ mostW)
 (he : EnvW (envS 149 [(1, .ptr 0 0), (4, .d (.str s)), (5, .d (.int .i64 (i : Int))), (6, .d (.int .i64 0))]) env)
 (hend : ∀ env' S', EnvW (envS 149 [(1, .ptr 0 0), (4, .d (.str a)), (5, .d (.int .i64 (i : Int)))]) env' → (⟨[prL p], []⟩ : Mem) = S' → ARun Tryz.prog TabI z 8 K' env' S' R) :
 ARun Tryz.prog TabI z 8 ([.code (.loop (kF Tryz.f8 32)), .inBlock 2] ++ K') env ⟨[prL p], []⟩ R := by
 have hgx : (p.structs.map suD)[i]? = some [.str x.name, .sl (x.fields.map paD)] := by simp [hi, hx, suD_eq]
 have hfl := flT_len x.fields
 have hal := congrArg List.length ha
 simp only [lnw] at hal
 unfold mostW at hb
 unfold prL at hend ⊢
 refine ARun.weak he ?_
 refine ARun.loopW (fun q : Nat × List UInt8 => (envS 149 [(1, .ptr 0 0), (4, .d (.str q.2)), (5, .d (.int .i64 (i : Int))), (6, .d (.int .i64 (q.1 : Int)))], ⟨[[.d (.sl (p.structs.map suD)), .d (.sl (p.funcs.map fuD))]], []⟩)) (fun q => q.1 ≤ x.fields.length ∧ q.2 ++ flT (x.fields.drop q.1) = a) (fun q => x.fields.length - q.1) (0, s) ⟨by simp, ha⟩ ?_ rfl ?_
 ·skip
  refine Agree.env _ ?_
  simp only [agw, seval]
 rintro ⟨j, s1⟩ ⟨h1, h2⟩ ih
 dsimp only at h1 h2 ih ⊢
 by_cases hlt : j < x.fields.length
 case neg =>
  have e1 : decide ((j : Int) < (x.fields.length : Int)) = false := decide_eq_false (by omega)
  rw [List.drop_eq_nil_of_le (by omega), flT, List.append_nil] at h2
  subst h2
  refine ARun.goK (k := [_, _, _]) 60 ?_
  simp only [W, seval, c8, e1, hgx, hi]
  refine hend _ _ ?_ rfl
  refine Agree.env _ ?_
  simp only [agw, seval]
 have e1 : decide ((j : Int) < (x.fields.length : Int)) = true := decide_eq_true (by omega)
 have hwj := wrap_in ((j : Int) + 1) (by omega)
 have hgy : (x.fields.map paD)[j]? = some (paD x.fields[j]) := by simp [hlt]
 have hoy := hok x.fields[j] (List.getElem_mem hlt)
 rw [flT_drop x.fields j hlt] at h2
 generalize x.fields[j] = y at hgy hoy h2
 rw [paD_eq] at hgy
 unfold paT at h2
 have h2l := congrArg List.length h2
 simp only [lnw] at h2l
 have ht := typ2_ab hoy.2 (by unfold mostW; omega)
 unfold tyV at ht
 generalize typT y.type = u at ht h2 h2l
 have kk : s1.length ≤ 9223372036854775806 ∧ s1.length + 1 ≤ 9223372036854775807 ∧ s1.length + 1 + y.name.length ≤ 9223372036854775807 ∧ s1.length + (y.name.length + 1) ≤ 9223372036854775806 ∧ s1.length + (y.name.length + 1) + 1 ≤ 9223372036854775807 ∧ s1.length + (y.name.length + 1 + 1) + u.length ≤ 9223372036854775807 ∧ s1.length + (y.name.length + 2) + u.length ≤ 9223372036854775807 ∧ s1.length + (y.name.length + (u.length + 1) + 1) ≤ 9223372036854775806 ∧ s1.length + (y.name.length + (u.length + 1) + 1) + 1 ≤ 9223372036854775807 := by omega
 refine ARun.goK (k := [_, _, _]) 60 ?_
 simp only [W, seval, c8, e1, hgx, hi]
 refine ARun.draw (by kernel_rfl) (by kernel_rfl) (lexQ_ok 60 _ _ ?_)
 simp only [W, seval, c8, hgx, hi, hgy, hlt, kk]
 refine ⟨_, ht _, ?_⟩
 simp only [W, seval, c8, kk]
 refine ARun.goK (k := [_, _, _]) 60 ?_
 simp only [W, seval, c8, hwj]
 refine ih (j + 1, s1 ++ 9 :: (y.name ++ 32 :: (u ++ [10]))) ⟨by dsimp only; omega, by simpa using h2⟩ (by dsimp only; omega) _ _ ?_ rfl
 refine Agree.env _ ?_
 simp only [agw, seval]
set_option maxHeartbeats 2000000 in
theorem params_run {p : PrT} {z : Nat × Nat} {R : V → Mem → Prop} {K' : List Item} {i : Nat} {f : FuT} {s : List UInt8} {env : List V} (hok : ∀ y ∈ f.params, OkPa y) (hb : (comT (f.params.map paT)).length ≤ mostW)
 (he : EnvW (envS 149 [(1, .ptr 0 0), (4, .d (.str s)), (7, .d (.int .i64 (i : Int))), (8, .ptr 1 0), (9, .sl [] (.own 0)), (10, .d (.int .i64 0))]) env)
 (hend : ∀ env' S', EnvW (envS 149 [(1, .ptr 0 0), (4, .d (.str s)), (7, .d (.int .i64 (i : Int))), (8, .ptr 1 0), (9, .sl (ssD (f.params.map paT)) (.own 0))]) env' → (⟨[prL p, fB f], [(f.params.length, 1)]⟩ : Mem) = S' → ARun Tryz.prog TabI z 8 K' env' S' R) :
 ARun Tryz.prog TabI z 8 ([.code (.loop (kF Tryz.f8 66)), .inBlock 6] ++ K') env ⟨[prL p, fB f], [(0, 1)]⟩ R := by
 have hcn : 2 * (f.params.map paT).length ≤ (comT (f.params.map paT)).length + 2 := com_cnt false _
 have hmem : ∀ x ∈ f.params.map paT, x.length ≤ (comT (f.params.map paT)).length := com_mem false _
 rw [List.length_map] at hcn
 unfold mostW at hb
 unfold prL fB at hend ⊢
 refine ARun.weak he ?_
 refine ARun.loopW (fun j : Nat => (envS 149 [(1, .ptr 0 0), (4, .d (.str s)), (7, .d (.int .i64 (i : Int))), (8, .ptr 1 0), (9, .sl (ssD ((f.params.take j).map paT)) (.own 0)), (10, .d (.int .i64 (j : Int)))], ⟨[[.d (.sl (p.structs.map suD)), .d (.sl (p.funcs.map fuD))], [.d (.str f.name), .d (.sl (f.params.map paD)), .d (.sl (f.results.map tyD)), .d (.sl (f.body.map stD))]], [(j, 1)]⟩)) (fun j => j ≤ f.params.length) (fun j => f.params.length - j) 0 (by omega) ?_ rfl ?_
 ·skip
  refine Agree.env _ ?_
  simp only [agw, seval]
  try rfl
 intro j h1 ih
 dsimp only at h1 ih ⊢
 by_cases hlt : j < f.params.length
 case neg =>
  have e1 : decide ((j : Int) < (f.params.length : Int)) = false := decide_eq_false (by omega)
  obtain rfl : j = f.params.length := by omega
  rw [List.take_length]
  refine ARun.goK (k := [_, _, _]) 60 ?_
  simp only [W, seval, c8, e1]
  refine hend _ _ ?_ rfl
  refine Agree.env _ ?_
  simp only [agw, seval]
 have e1 : decide ((j : Int) < (f.params.length : Int)) = true := decide_eq_true (by omega)
 have hwj := wrap_in ((j : Int) + 1) (by omega)
 have hgy : (f.params.map paD)[j]? = some (paD f.params[j]) := by simp [hlt]
 have hoy := hok f.params[j] (List.getElem_mem hlt)
 have hle := hmem (paT f.params[j]) (List.mem_map.2 ⟨_, List.getElem_mem hlt, rfl⟩)
 have htk : (f.params.take (j + 1)).map paT = (f.params.take j).map paT ++ [paT f.params[j]] := by
  rw [List.take_succ_eq_append_getElem hlt, List.map_append]
  rfl
 generalize f.params[j] = y at hgy hoy hle htk
 rw [paD_eq] at hgy
 have hpl : (paT y).length = y.name.length + 1 + (typT y.type).length := by unfold paT; simp; omega
 rw [hpl] at hle
 have ht := typ2_ab hoy.2 (by unfold mostW; omega)
 unfold tyV at ht
 have hpt : paT y = y.name ++ [32] ++ typT y.type := rfl
 rw [hpt] at htk
 generalize typT y.type = u at ht hle htk
 have kk : y.name.length ≤ 9223372036854775806 ∧ y.name.length + 1 ≤ 9223372036854775807 ∧ y.name.length + 1 + u.length ≤ 9223372036854775807 := by omega
 have hcap : (j + 1) * 16 ≤ 140737488355328 := by omega
 have hsn : ssD ((f.params.take j).map paT) ++ [[D.str (y.name ++ 32 :: u)]] = ssD ((f.params.take (j + 1)).map paT) := by rw [htk, show y.name ++ [32] ++ u = y.name ++ 32 :: u by simp]; exact ssD_snoc _ _
 have hsn2 : (ssD ((f.params.take j).map paT)).length = j := by simp [ssD]; omega
 refine ARun.goK (k := [_, _, _]) 60 ?_
 simp only [W, seval, c8, e1]
 refine ARun.drawC [14, 17] (fun S => S.boxes[1]? = some [.d (.str f.name), .d (.sl (f.params.map paD)), .d (.sl (f.results.map tyD)), .d (.sl (f.body.map stD))]) (by kernel_rfl) (by kernel_rfl) (by kernel_rfl) ?_
 simp only [W, seval, c8]
 refine lexC_q (v := ?_) (by rfl) (by kernel_rfl) (fun S hS => ?_) ?_
 rotate_left
 ·simp only [W, seval, c8]
  exact rfl
 simp only [W, seval, c8]
 refine lexC_q (v := ?_) (by rfl) (by kernel_rfl) (fun S hS => ?_) ?_
 rotate_left
 ·simp only [W, seval, c8]
  exact rfl
 simp only [W, seval, c8]
 refine lexC_q (v := ?_) (by rfl) (by kernel_rfl) (fun S hS => ?_) ?_
 rotate_left
 ·try dsimp only at hS
  simp only [W, seval, c8, hS]
  exact rfl
 simp only [W, seval, c8]
 refine lexC_q (v := ?_) (by rfl) (by kernel_rfl) (fun S hS => ?_) ?_
 rotate_left
 ·simp only [W, seval, c8]
  exact rfl
 simp only [W, seval, c8]
 refine lexC_q (v := ?_) (by rfl) (by kernel_rfl) (fun S hS => ?_) ?_
 rotate_left
 ·simp only [W, seval, c8, hgy, hlt]
  exact rfl
 simp only [W, seval, c8]
 refine lexC_q (v := ?_) (by rfl) (by kernel_rfl) (fun S hS => ?_) ?_
 rotate_left
 ·simp only [W, seval, c8]
  exact rfl
 simp only [W, seval, c8]
 refine lexC_q (v := ?_) (by rfl) (by kernel_rfl) (fun S hS => ?_) ?_
 rotate_left
 ·simp only [W, seval, c8, hgy, hlt]
  exact rfl
 simp only [W, seval, c8]
 refine lexC_q (v := ?_) (by rfl) (by kernel_rfl) (fun S hS => ?_) ?_
 rotate_left
 ·simp only [W, seval, c8, kk]
  exact rfl
 simp only [W, seval, c8]
 refine lexC_q (v := ?_) (by rfl) (by kernel_rfl) (fun S hS => ?_) ?_
 rotate_left
 ·simp only [W, seval, c8]
  exact rfl
 simp only [W, seval, c8]
 refine lexC_q (v := ?_) (by rfl) (by kernel_rfl) (fun S hS => ?_) ?_
 rotate_left
 ·try dsimp only at hS
  simp only [W, seval, c8, hS]
  exact rfl
 simp only [W, seval, c8]
 refine lexC_q (v := ?_) (by rfl) (by kernel_rfl) (fun S hS => ?_) ?_
 rotate_left
 ·simp only [W, seval, c8]
  exact rfl
 simp only [W, seval, c8]
 refine lexC_q (v := ?_) (by rfl) (by kernel_rfl) (fun S hS => ?_) ?_
 rotate_left
 ·simp only [W, seval, c8, hgy, hlt]
  exact rfl
 simp only [W, seval, c8]
 refine lexC_q (v := ?_) (by rfl) (by kernel_rfl) (fun S hS => ?_) ?_
 rotate_left
 ·simp only [W, seval, c8]
  exact rfl
 simp only [W, seval, c8]
 refine lexC_q (v := ?_) (by rfl) (by kernel_rfl) (fun S hS => ?_) ?_
 rotate_left
 ·simp only [W, seval, c8, hgy, hlt]
  exact rfl
 simp only [W, seval, c8]
 refine Same.lexc (ht _) ?_ (by rfl) (by kernel_rfl) ?_ ?_
 ·rfl
 ·simp only [W, seval, c8]
  exact ⟨_, _, _, _, rfl, rfl, rfl, by simp only [W, seval, c8]⟩
 simp only [W, seval, c8]
 refine lexC_q (v := ?_) (by rfl) (by kernel_rfl) (fun S hS => ?_) ?_
 rotate_left
 ·simp only [W, seval, c8, kk]
  exact rfl
 simp only [W, seval, c8]
 refine lexC_q (v := ?_) (by rfl) (by kernel_rfl) (fun S hS => ?_) ?_
 rotate_left
 ·simp only [W, seval, c8, mapD_nil, mapD_cons]
  exact rfl
 simp only [W, seval, c8]
 refine lexC_w (v := ?_) (S' := ?_) ?_ (by rfl) (by kernel_rfl) ?_ ?_
 rotate_left 2
 ·first | trivial | simp [bx_loc, bx_loc0, hsn2, hcap, hsn, ss1, Nat.reduceMul]
 ·simp only [W, seval, c8, hsn2, hcap, hsn, ss1, Nat.reduceMul]
  exact rfl
 simp only [W, seval, c8]
 refine lexC_q (v := ?_) (by rfl) (by kernel_rfl) (fun S hS => ?_) ?_
 rotate_left
 ·simp only [W, seval, c8]
  exact rfl
 simp only [W, seval, c8]
 refine lexC_end rfl ?_
 refine ARun.goK (k := [_, _, _]) 60 ?_
 simp only [W, seval, c8, hwj]
 refine ih (j + 1) (by omega) (by omega) _ _ ?_ rfl
 refine Agree.env _ ?_
 simp only [agw, seval]
 try rfl
set_option maxHeartbeats 2000000 in
theorem results_run {p : PrT} {z : Nat × Nat} {R : V → Mem → Prop} {K' : List Item} {i n0 : Nat} {f : FuT} {s : List UInt8} {P : List (List D)} {env : List V} (hok : ∀ y ∈ f.results, OkT y) (hb : (comT (f.results.map typT)).length ≤ mostW)
 (he : EnvW (envS 149 [(1, .ptr 0 0), (4, .d (.str s)), (7, .d (.int .i64 (i : Int))), (8, .ptr 1 0), (9, .sl P (.own 0)), (11, .sl [] (.own 1)), (12, .d (.int .i64 0))]) env)
 (hend : ∀ env' S', EnvW (envS 149 [(1, .ptr 0 0), (4, .d (.str s)), (7, .d (.int .i64 (i : Int))), (8, .ptr 1 0), (9, .sl P (.own 0)), (11, .sl (ssD (f.results.map typT)) (.own 1))]) env' → (⟨[prL p, fB f], [(n0, 1), (f.results.length, 1)]⟩ : Mem) = S' → ARun Tryz.prog TabI z 8 K' env' S' R) :
 ARun Tryz.prog TabI z 8 ([.code (.loop (kF Tryz.f8 83)), .inBlock 8] ++ K') env ⟨[prL p, fB f], [(n0, 1), (0, 1)]⟩ R := by
 have hcn : 2 * (f.results.map typT).length ≤ (comT (f.results.map typT)).length + 2 := com_cnt false _
 have hmem : ∀ x ∈ f.results.map typT, x.length ≤ (comT (f.results.map typT)).length := com_mem false _
 rw [List.length_map] at hcn
 unfold mostW at hb
 unfold prL fB at hend ⊢
 refine ARun.weak he ?_
 refine ARun.loopW (fun j : Nat => (envS 149 [(1, .ptr 0 0), (4, .d (.str s)), (7, .d (.int .i64 (i : Int))), (8, .ptr 1 0), (9, .sl P (.own 0)), (11, .sl (ssD ((f.results.take j).map typT)) (.own 1)), (12, .d (.int .i64 (j : Int)))], ⟨[[.d (.sl (p.structs.map suD)), .d (.sl (p.funcs.map fuD))], [.d (.str f.name), .d (.sl (f.params.map paD)), .d (.sl (f.results.map tyD)), .d (.sl (f.body.map stD))]], [(n0, 1), (j, 1)]⟩)) (fun j => j ≤ f.results.length) (fun j => f.results.length - j) 0 (by omega) ?_ rfl ?_
 ·skip
  refine Agree.env _ ?_
  simp only [agw, seval]
  try rfl
 intro j h1 ih
 dsimp only at h1 ih ⊢
 by_cases hlt : j < f.results.length
 case neg =>
  have e1 : decide ((j : Int) < (f.results.length : Int)) = false := decide_eq_false (by omega)
  obtain rfl : j = f.results.length := by omega
  rw [List.take_length]
  refine ARun.goK (k := [_, _, _]) 60 ?_
  simp only [W, seval, c8, e1]
  refine hend _ _ ?_ rfl
  refine Agree.env _ ?_
  simp only [agw, seval]
 have e1 : decide ((j : Int) < (f.results.length : Int)) = true := decide_eq_true (by omega)
 have hwj := wrap_in ((j : Int) + 1) (by omega)
 have hgy : (f.results.map tyD)[j]? = some (tyD f.results[j]) := by simp [hlt]
 have hoy := hok f.results[j] (List.getElem_mem hlt)
 have hle := hmem (typT f.results[j]) (List.mem_map.2 ⟨_, List.getElem_mem hlt, rfl⟩)
 have htk : (f.results.take (j + 1)).map typT = (f.results.take j).map typT ++ [typT f.results[j]] := by
  rw [List.take_succ_eq_append_getElem hlt, List.map_append]
  rfl
 generalize f.results[j] = y at hgy hoy hle htk
 rw [tyD_eq] at hgy
 have ht := typ2_ab hoy (by unfold mostW; omega)
 unfold tyV at ht
 generalize typT y = u at ht hle htk
 have hcap : (j + 1) * 16 ≤ 140737488355328 := by omega
 have hsn : ssD ((f.results.take j).map typT) ++ [[D.str u]] = ssD ((f.results.take (j + 1)).map typT) := by rw [htk]; exact ssD_snoc _ _
 have hsn2 : (ssD ((f.results.take j).map typT)).length = j := by simp [ssD]; omega
 refine ARun.goK (k := [_, _, _]) 60 ?_
 simp only [W, seval, c8, e1, hgy, hlt]
 refine callS_fn (ht _) ?_
 rintro _ _ ⟨rfl, rfl⟩
 refine ARun.goK (k := [_, _, _, _, _]) 60 ?_
 simp only [W, seval, c8, hsn2, mapD_nil, mapD_cons, Nat.reduceMul, hcap, hsn, ss1, hwj]
 refine ih (j + 1) (by omega) (by omega) _ _ ?_ rfl
 refine Agree.env _ ?_
 simp only [agw, seval]
 try rfl
theorem suTs_len : ∀ l : List SuT, l.length ≤ (suTs l).length
 | [] => Nat.zero_le _
 | p :: l => by
  have := suTs_len l
  rw [suTs]
  unfold sutT
  simp only [lnw, List.length_cons]
  omega
theorem fuTs_len : ∀ l : List FuT, l.length ≤ (fuTs l).length
 | [] => Nat.zero_le _
 | p :: l => by
  have := fuTs_len l
  rw [fuTs]
  unfold fuT
  simp only [lnw, List.length_cons]
  omega
set_option maxHeartbeats 4000000 in
theorem rfuncs_run {p : PrT} (hp : ∀ f ∈ p.funcs, OkFu f) {s a : List UInt8} {env : List V} (ha : s ++ fuTs p.funcs = a) (hal : a.length ≤ mostW)
 (he : EnvW (envS 149 [(1, .ptr 0 0), (4, .d (.str s)), (7, .d (.int .i64 0))]) env) :
 ARun Tryz.prog TabI (0, 0) 8 [.code (.loop (kF Tryz.f8 49)), .inBlock 4, .code (kF Tryz.f8 95)] env ⟨[prL p], []⟩ (Ab.Left ⟨[], []⟩ (Same (.tup [.d (.str (outT a).1), .d (.int .i64 (outT a).2)]) ⟨[], []⟩)) := by
 have hfl := fuTs_len p.funcs
 have hal0 := congrArg List.length ha
 simp only [lnw] at hal0
 unfold mostW at hal
 have hout1 : ∀ (e : decide ((400000 : Int) < (a.length : Int)) = true), outT a = ([], 3) := fun e => by unfold outT; rw [if_pos (by have := of_decide_eq_true e; omega)]
 have hout0 : ∀ (e : decide ((400000 : Int) < (a.length : Int)) = false), outT a = (a, 0) := fun e => by unfold outT; rw [if_neg (by have := of_decide_eq_false e; omega)]
 refine ARun.weak he ?_
 unfold prL
 refine ARun.fits fun hf => ?_
 refine ARun.loopA (fun q : Nat × List UInt8 => (envS 149 [(1, .ptr 0 0), (4, .d (.str q.2)), (7, .d (.int .i64 (q.1 : Int)))], ⟨[[.d (.sl (p.structs.map suD)), .d (.sl (p.funcs.map fuD))]], []⟩)) (fun q => q.1 ≤ p.funcs.length ∧ q.2 ++ fuTs (p.funcs.drop q.1) = a) (fun q => p.funcs.length - q.1) (0, s) ⟨by simp, ha⟩ ?_ rfl ?_
 ·skip
  refine Agree.env _ ?_
  simp only [agw, seval]
 rintro ⟨i, s1⟩ ⟨h1, h2⟩ ih
 dsimp only at h1 h2 ih ⊢
 by_cases hlt : i < p.funcs.length
 case neg =>
  have e1 : decide ((i : Int) < (p.funcs.length : Int)) = false := decide_eq_false (by omega)
  rw [List.drop_eq_nil_of_le (by omega), fuTs, List.append_nil] at h2
  subst h2
  cases e2 : decide ((400000 : Int) < (s1.length : Int))
  ·rw [hout0 e2]
   refine ARun.go 60 ?_
   simp only [W, seval, c8, e1, e2]
   refine ARun.ret Tryz.func8 rfl (Left.empty ?_)
   exact ⟨rfl, rfl⟩
  ·rw [hout1 e2]
   refine ARun.go 60 ?_
   simp only [W, seval, c8, e1, e2]
   refine ARun.ret Tryz.func8 rfl (Left.empty ?_)
   exact ⟨rfl, rfl⟩
 have e1 : decide ((i : Int) < (p.funcs.length : Int)) = true := decide_eq_true (by omega)
 have hwi := wrap_in ((i : Int) + 1) (by omega)
 have hgx : (p.funcs.map fuD)[i]? = some (fuD p.funcs[i]) := by simp [hlt]
 have hfx := hp p.funcs[i] (List.getElem_mem hlt)
 rw [fuTs_drop p.funcs i hlt] at h2
 generalize p.funcs[i] = f at hgx hfx h2
 rw [fuD_eq] at hgx
 unfold fuT at h2
 have h2l := congrArg List.length h2
 simp only [lnw] at h2l
 have hpar := fun R K' env => params_run (R := R) (K' := K') (env := env) (p := p) (f := f) (i := i) (s := s1) (z := (0, 0)) hfx.2.1 (by unfold mostW; omega)
 have hres := fun R K' env => results_run (R := R) (K' := K') (env := env) (p := p) (f := f) (i := i) (s := s1) (z := (0, 0)) (n0 := f.params.length) (P := ssD (f.params.map paT)) hfx.2.2.2.1 (by unfold mostW; omega)
 have hj1 := AFn.sameW (join2_in (f.params.map paT) (by unfold mostW; omega)).only (args := [.sl (ssD (f.params.map paT)) (.own 0)]) (by simp [wkL, wk]) rfl ⟨[prL p, fB f], [(f.params.length, 1), (f.results.length, 1)]⟩
 have hj2 := AFn.sameW (join2_in (f.results.map typT) (by unfold mostW; omega)).only (args := [.sl (ssD (f.results.map typT)) (.own 1)]) (by simp [wkL, wk]) rfl ⟨[prL p, fB f], [(f.params.length, 1), (f.results.length, 1)]⟩
 have hst := stmts2_ab 1 f.body (fun x hx => stmt2_ab (hfx.2.2.2.2 x hx) 1) (by unfold mostW; omega)
 rw [show tabT 1 = [9] from rfl] at hst
 generalize comT (f.params.map paT) = P at hj1 h2 h2l
 generalize comT (f.results.map typT) = Q at hj2 h2 h2l
 generalize stTs 1 f.body = W0 at hst h2 h2l
 have kk : s1.length ≤ 9223372036854775801 ∧ s1.length + 6 ≤ 9223372036854775807 ∧ s1.length + 6 + f.name.length ≤ 9223372036854775807 ∧ s1.length + (f.name.length + 6) ≤ 9223372036854775806 ∧ s1.length + (f.name.length + 6) + 1 ≤ 9223372036854775807 ∧ s1.length + (f.name.length + 7) + P.length ≤ 9223372036854775807 ∧ s1.length + (f.name.length + (P.length + 1) + 6) ≤ 9223372036854775804 ∧ s1.length + (f.name.length + (P.length + 1) + 6) + 3 ≤ 9223372036854775807 ∧ s1.length + (f.name.length + (P.length + 4) + 6) + Q.length ≤ 9223372036854775807 ∧ s1.length + (f.name.length + (P.length + (Q.length + 1 + 1 + 1) + 1) + 6) ≤ 9223372036854775803 ∧ s1.length + (f.name.length + (P.length + (Q.length + 1 + 1 + 1) + 1) + 6) + 4 ≤ 9223372036854775807 ∧ s1.length + (f.name.length + (P.length + (Q.length + 3) + 1) + 6) ≤ 9223372036854775803 ∧ s1.length + (f.name.length + (P.length + (Q.length + 3) + 1) + 6) + 4 ≤ 9223372036854775807 ∧ s1.length + (f.name.length + (P.length + (Q.length + 7) + 1) + 6) + W0.length ≤ 9223372036854775807 ∧ s1.length + (f.name.length + (P.length + (Q.length + (W0.length + 4) + 1 + 1 + 1) + 1) + 6) ≤ 9223372036854775805 ∧ s1.length + (f.name.length + (P.length + (Q.length + (W0.length + 4) + 1 + 1 + 1) + 1) + 6) + 2 ≤ 9223372036854775807 ∧ s1.length + (f.name.length + (P.length + (Q.length + (W0.length + 4) + 3) + 1) + 6) ≤ 9223372036854775805 ∧ s1.length + (f.name.length + (P.length + (Q.length + (W0.length + 4) + 3) + 1) + 6) + 2 ≤ 9223372036854775807 := by omega
 unfold prL fB at hpar hres hj1 hj2
 refine ARun.go 60 ?_
 simp only [W, seval, c8, e1, hgx, hlt]
 refine ARun.token 9 [] (by rfl) 1 (by omega) rfl ?_
 simp only [envS_put, List.length_nil]
 refine hpar _ _ _ ?_ ?_
 ·skip
  refine Agree.env _ ?_
  simp only [agw, seval]
 clear hpar
 rintro env2 _ he2 rfl
 refine ARun.weak he2 ?_
 refine ARun.go 20 ?_
 simp only [W, seval, c8]
 refine ARun.token 11 [] (by rfl) 1 (by omega) rfl ?_
 simp only [envS_put, List.length_nil]
 refine hres _ _ _ ?_ ?_
 ·skip
  refine Agree.env _ ?_
  simp only [agw, seval]
  try rfl
 clear hres
 rintro env3 _ he3 rfl
 refine ARun.weak he3 ?_
 refine ARun.go 20 ?_
 simp only [W, seval, c8]
 refine ARun.draw (by kernel_rfl) (by kernel_rfl) (lexQ_ok 60 _ _ ?_)
 simp only [W, seval, c8, kk]
 refine ⟨_, hj1, ?_⟩
 simp only [W, seval, c8, kk]
 refine ⟨_, hj2, ?_⟩
 simp only [W, seval, c8, kk]
 refine ⟨_, hst _, ?_⟩
 simp only [W, seval, c8, kk]
 refine ARun.go 60 ?_
 simp only [W, seval, c8, hwi]
 refine ih (i + 1, s1 ++ 10 :: 102 :: 117 :: 110 :: 99 :: 32 :: (f.name ++ 40 :: (P ++ 41 :: 32 :: 40 :: (Q ++ 41 :: 32 :: 123 :: 10 :: (W0 ++ [125, 10]))))) ⟨by dsimp only; omega, by simpa using h2⟩ (by dsimp only; omega) _ [[.d (.sl (p.structs.map suD)), .d (.sl (p.funcs.map fuD))]] _ [] _ rfl ⟨Nat.zero_le _, Nat.zero_le _⟩ hf ?_
 refine AgreeF.env _ ?_
 simp only [agf, seval, List.length_cons, List.length_nil]
set_option maxHeartbeats 4000000 in
theorem rprog_in {p : PrT} (hp : rgR p = true → OkPr p) (hl : rgR p = true → (prT' p).length ≤ mostW) : AFn Tryz.prog TabI 8 [prV p] ⟨[], []⟩ (Same (.tup [.d (.str (if rgR p = true then (outT (prT' p)).1 else [])), .d (.int .i64 (if rgR p = true then (outT (prT' p)).2 else 2))]) ⟨[], []⟩) := by
 have hrg := rgR_ab p [prL p] []
 unfold prV prL at hrg
 unfold prV
 cases hr : rgR p
 ·rw [hr] at hrg
  rw [if_neg (by simp), if_neg (by simp)]
  refine b8.go 20 rfl fun hsm => ?_
  simp only [smw] at hsm
  simp only [W, seval, c8]
  refine callS_fn hrg ?_
  rintro _ _ ⟨rfl, rfl⟩
  refine ARun.go 40 ?_
  simp only [W, seval, c8]
  refine ARun.ret Tryz.func8 rfl (Left.empty ?_)
  exact ⟨rfl, rfl⟩
 rw [hr] at hrg
 rw [if_pos rfl, if_pos rfl]
 have hp := hp hr
 have hl := hl hr
 obtain ⟨a, ha⟩ : ∃ a, [112, 97, 99, 107, 97, 103, 101, 32, 112, 10] ++ suTs p.structs = a := ⟨_, rfl⟩
 have hfin : a ++ fuTs p.funcs = prT' p := by rw [← ha]; rfl
 have hfun := fun s env (h : s = a) => rfuncs_run (env := env) (p := p) (s := s) hp.2 (by rw [h]; exact hfin) hl
 have hal := congrArg List.length hfin
 simp only [lnw] at hal
 have hsl := suTs_len p.structs
 have hal2 := congrArg List.length ha
 simp only [lnw] at hal2
 generalize prT' p = A at hfun hl hal ⊢
 unfold mostW at hl
 refine b8.go 20 rfl fun hsm => ?_
 simp only [smw] at hsm
 simp only [W, seval, c8]
 refine callS_fn hrg ?_
 rintro _ _ ⟨rfl, rfl⟩
 refine ARun.go 60 ?_
 simp only [W, seval, c8]
 refine ARun.loopW (fun q : Nat × List UInt8 => (envS 149 [(1, .ptr 0 0), (4, .d (.str q.2)), (5, .d (.int .i64 (q.1 : Int)))], ⟨[[.d (.sl (p.structs.map suD)), .d (.sl (p.funcs.map fuD))]], []⟩)) (fun q => q.1 ≤ p.structs.length ∧ q.2 ++ suTs (p.structs.drop q.1) = a) (fun q => p.structs.length - q.1) (0, [112, 97, 99, 107, 97, 103, 101, 32, 112, 10]) ⟨by simp, ha⟩ ?_ rfl ?_
 ·skip
  refine Agree.env _ ?_
  simp only [agw, seval]
 rintro ⟨i, s⟩ ⟨h1, h2⟩ ih
 dsimp only at h1 h2 ih ⊢
 by_cases hlt : i < p.structs.length
 case neg =>
  have e1 : decide ((i : Int) < (p.structs.length : Int)) = false := decide_eq_false (by omega)
  rw [List.drop_eq_nil_of_le (by omega), suTs, List.append_nil] at h2
  refine ARun.go 60 ?_
  simp only [W, seval, c8, e1]
  refine hfun s _ h2 ?_
  refine Agree.env _ ?_
  simp only [agw, seval]
 have e1 : decide ((i : Int) < (p.structs.length : Int)) = true := decide_eq_true (by omega)
 have hwi := wrap_in ((i : Int) + 1) (by omega)
 have hgx : (p.structs.map suD)[i]? = some (suD p.structs[i]) := by simp [hlt]
 have hok := hp.1 p.structs[i] (List.getElem_mem hlt)
 rw [suTs_drop p.structs i hlt] at h2
 obtain ⟨x, hx⟩ : ∃ x, p.structs[i] = x := ⟨_, rfl⟩
 rw [hx] at hgx hok h2
 rw [suD_eq] at hgx
 unfold sutT at h2
 have h2l := congrArg List.length h2
 simp only [lnw] at h2l
 have hfr := fun b (hb : (s ++ 10 :: 116 :: 121 :: 112 :: 101 :: 32 :: (x.name ++ [32, 115, 116, 114, 117, 99, 116, 32, 123, 10])) ++ flT x.fields = b) (h : b.length ≤ mostW) R K' env => fields_run (R := R) (K' := K') (env := env) (p := p) (z := (0, 0)) hlt hx hok.2 hb h
 obtain ⟨b, hb⟩ : ∃ b, (s ++ 10 :: 116 :: 121 :: 112 :: 101 :: 32 :: (x.name ++ [32, 115, 116, 114, 117, 99, 116, 32, 123, 10])) ++ flT x.fields = b := ⟨_, rfl⟩
 have hbl := congrArg List.length hb
 simp only [lnw] at hbl
 have hfr := hfr b hb (by unfold mostW; omega)
 have h3 : b ++ [125, 10] ++ suTs (p.structs.drop (i + 1)) = a := by rw [← h2, ← hb]; simp
 have h3l := congrArg List.length h3
 simp only [lnw] at h3l
 have kk : s.length ≤ 9223372036854775801 ∧ s.length + 6 ≤ 9223372036854775807 ∧ s.length + 6 + x.name.length ≤ 9223372036854775807 ∧ s.length + (x.name.length + 6) ≤ 9223372036854775797 ∧ s.length + (x.name.length + 6) + 10 ≤ 9223372036854775807 := by omega
 have k2 : b.length ≤ 9223372036854775805 ∧ b.length + 2 ≤ 9223372036854775807 := by omega
 unfold prL at hfr
 refine ARun.go 60 ?_
 simp only [W, seval, c8, e1, hgx, hlt, kk]
 refine hfr _ _ _ ?_ ?_
 ·skip
  refine Agree.env _ ?_
  simp only [agw, seval]
 clear hfr
 rintro env2 _ he2 rfl
 refine ARun.weak he2 ?_
 refine ARun.go 60 ?_
 simp only [W, seval, c8, k2, hwi]
 refine ih (i + 1, b ++ [125, 10]) ⟨by dsimp only; omega, h3⟩ (by dsimp only; omega) _ _ ?_ rfl
 refine Agree.env _ ?_
 simp only [agw, seval]
theorem rprog_ab {p : PrT} (hp : rgR p = true → OkPr p) (hl : rgR p = true → (prT' p).length ≤ mostW) (S : Mem) : AFn Tryz.prog TabI 8 [prV p] S (Same (.tup [.d (.str (if rgR p = true then (outT (prT' p)).1 else [])), .d (.int .i64 (if rgR p = true then (outT (prT' p)).2 else 2))]) S) :=
 (rprog_in hp hl).same (by simp [prV, wkL, wk]) (by simp [wkL, wk]) S
def c6 := by
 have c := KK_of Tryz.f6 (by conv => lhs; cbv)
 dsimp only [KK, KxP, doO, opO, List.map_cons, List.map_nil, List.toList_toArray] at c
 exact c
theorem b6 : FnIs Tryz.prog 6 Tryz.f6 36 := ⟨Tryz.func6, by kernel_rfl⟩
set_option maxHeartbeats 2000000 in
theorem gexpr_in {x : ExT} (h : OkE 0 x) (hs : (exS x 0 0).1 = true) (hne : exT x ≠ []) (hl : (exT x).length ≤ 400000) : AFn Tryz.prog TabI 12 [exV x] ⟨[], []⟩ (Same (.tup [.d (.sl (byD (exT x))), .d (.int .i64 0)]) ⟨[], []⟩) := by
 have hrg := exprG_ab x [exL x] []
 have hl9 : (exT x).length ≤ mostW := by unfold mostW; omega
 rw [hs] at hrg
 have hp1 : AFn Tryz.prog TabI 44 [.ptr 1 0, exV x] ⟨[exL x, bxW 1 0 [] 0], [(0, 1)]⟩ (Same (.tup []) ⟨[exL x, bxW 1 0 (exT x) 0], [((exT x).length, 1)]⟩) := expr_pw h 1 0 [] 0 [exL x, []] [(0, 1)] (by simp) (by simp) (by omega) (by simpa using hl9)
 have hd := done_ab (b0 := exL x) (s := exT x) hne hl9
 have ho : outT (exT x) = (exT x, 0) := by unfold outT; rw [if_neg (by omega)]
 rw [ho] at hd
 dsimp only at hd
 obtain ⟨S, hS⟩ : ∃ S, exT x = S := ⟨_, rfl⟩
 rw [hS] at hp1 hd ⊢
 unfold exV exL at hrg hp1
 unfold exL at hd
 unfold exV
 refine b12.go 20 rfl fun hsm => ?_
 simp only [smw] at hsm
 simp only [W, seval, c12]
 refine callS_fn hrg ?_
 rintro _ _ ⟨rfl, rfl⟩
 refine ARun.go 7 ?_
 simp only [W, seval, c12]
 refine OpR.step (ops := opsOf (kF Tryz.f12 11)) (i := 1) (o := opAt (opsOf (kF Tryz.f12 11)) 1) (by kernel_rfl) (.inl (by kernel_rfl)) (OpR.boxSelf (t := 54) (x := .tmp 8) (vs := [.sl [] .full, .d (.int .i64 0)]) (by kernel_rfl) (by rfl)) ?_
 rintro _ _ ⟨rfl, rfl⟩
 have hd9 : (opAt (opsOf (kF Tryz.f12 11)) 1).dst = some 9 := by kernel_rfl
 rw [hd9]
 refine ARun.bufB 1 5 (a := .self 1 54) (vs := [.d (.int .i64 0)]) (by rfl) ?_
 change ARun _ _ _ _ _ (setV (envS 17 _) _ _) ⟨[[.d (.int .i64 x.kind), .d (.str x.text), .d (.int .u64 x.int), .d (.int .i64 x.type.kind), .d (.str x.type.name), .d (.sl (x.type.elem.map tyD)), .d (.sl (ssD x.names)), .d (.sl (x.kids.map exD))], bxW 1 0 [] 0], [(0, 1)]⟩ _
 refine ARun.go 20 ?_
 simp only [W, seval, c12]
 refine callS_fn hp1 ?_
 rintro _ _ ⟨rfl, rfl⟩
 refine ARun.go 20 ?_
 simp only [W, seval, c12]
 refine callS_of hd ?_
 rintro _ _ ⟨rfl, k', rfl⟩
 refine ARun.go 40 ?_
 simp only [W, seval, c12]
 refine ARun.ret Tryz.func12 rfl (Left.empty ?_)
 exact ⟨rfl, rfl⟩
theorem type_run : evCall Tryz.prog TabI noOrc 10000 45 [.agg [.d (.int .i64 4), .d (.str []), .d (.sl [])]] = some (.d (.bool true)) := by kernel_rfl
set_option maxHeartbeats 2000000 in
theorem gtype_in : AFn Tryz.prog TabI 13 [.agg [.d (.int .i64 4), .d (.str []), .d (.sl [])]] ⟨[], []⟩ (Same (.d (.str [105, 110, 116])) ⟨[], []⟩) := by
 have hrg := AFn.sameW (args := [.agg [.d (.int .i64 4), .d (.str []), .d (.sl [])]]) (evCall_ok names_ok noOrc_ok type_run) rfl rfl ⟨[[.d (.int .i64 4), .d (.str []), .d (.sl [])]], []⟩
 have hp1 : AFn Tryz.prog TabI 46 [.ptr 1 0, .agg [.d (.int .i64 4), .d (.str []), .d (.sl [])]] ⟨[[.d (.int .i64 4), .d (.str []), .d (.sl [])], bxW 1 0 [] 0], [(0, 1)]⟩ (Same (.tup []) ⟨[[.d (.int .i64 4), .d (.str []), .d (.sl [])], bxW 1 0 [105, 110, 116] 0], [(3, 1)]⟩) := typ_pw (OkT.bas 4 (by omega) (by omega)) 1 0 [] 0 [[.d (.int .i64 4), .d (.str []), .d (.sl [])], []] [(0, 1)] (by simp) (by simp) (by omega) (by unfold mostW; decide)
 refine b13.go 20 rfl fun hsm => ?_
 simp only [smw] at hsm
 simp only [W, seval, c13]
 refine callS_fn hrg ?_
 rintro _ _ ⟨rfl, rfl⟩
 refine ARun.go 7 ?_
 simp only [W, seval, c13]
 refine OpR.step (ops := opsOf (kF Tryz.f13 11)) (i := 1) (o := opAt (opsOf (kF Tryz.f13 11)) 1) (by kernel_rfl) (.inl (by kernel_rfl)) (OpR.boxSelf (t := 54) (x := .tmp 7) (vs := [.sl [] .full, .d (.int .i64 0)]) (by kernel_rfl) (by rfl)) ?_
 rintro _ _ ⟨rfl, rfl⟩
 have hd9 : (opAt (opsOf (kF Tryz.f13 11)) 1).dst = some 8 := by kernel_rfl
 rw [hd9]
 refine ARun.bufB 1 5 (a := .self 1 54) (vs := [.d (.int .i64 0)]) (by rfl) ?_
 change ARun _ _ _ _ _ (setV (envS 16 _) _ _) ⟨[[.d (.int .i64 4), .d (.str []), .d (.sl [])], bxW 1 0 [] 0], [(0, 1)]⟩ _
 refine ARun.go 20 ?_
 simp only [W, seval, c13]
 refine callS_fn hp1 ?_
 rintro _ _ ⟨rfl, rfl⟩
 refine ARun.go 20 ?_
 simp only [W, seval, c13]
 refine callS_of (string_ab (B := [[.d (.int .i64 4), .d (.str []), .d (.sl [])], bxW 1 0 [105, 110, 116] 0]) (i := 1) (s := [105, 110, 116]) (vs := [.d (.int .i64 ((0 : Nat) : Int))]) rfl (by simp) (by simp)) ?_
 rintro _ _ ⟨rfl, k', rfl⟩
 refine ARun.go 40 ?_
 simp only [W, seval, c13]
 refine ARun.ret Tryz.func13 rfl (Left.empty ?_)
 exact ⟨rfl, rfl⟩
def x26 : ExT := .mk 6 [42] 0 (.mk 0 [] []) [] [.mk 6 [43] 0 (.mk 0 [] []) [] [.mk 1 [120] 0 (.mk 0 [] []) [] [], .mk 2 [] 1 (.mk 0 [] []) [] []], .mk 5 [] 0 (.mk 0 [] []) [] [.mk 1 [121] 0 (.mk 0 [] []) [] []]]
theorem ok26 : OkE 0 x26 := by
 refine .bin 0 [42] _ _ (by omega) (by decide) (.bin _ [43] _ _ (by omega) (by decide) (.nam _ [120] (by omega) (by decide)) (.num _ 1 (by omega) (by omega) (by omega))) (.sgn _ 5 _ (by omega) (.inr rfl) (.nam _ [121] (by omega) (by decide)))
theorem s26 : (exS x26 0 0).1 = true := by kernel_rfl
set_option maxHeartbeats 2000000 in
theorem works26_ab (S : Mem) : AFn Tryz.prog TabI 6 [] S (Same (.d (.bool true)) S) := by
 refine AFn.sameW (args' := []) ?_ rfl rfl S
 have hE := gexpr_in ok26 s26 (by rw [show exT x26 = _ from works26_text]; simp) (by rw [show exT x26 = _ from works26_text]; decide)
 rw [show exT x26 = _ from works26_text] at hE
 have hT := gtype_in
 refine AFn.bodyN (body := (kF Tryz.f6 0)) 36 Tryz.func6 (by kernel_rfl) (by kernel_rfl) (by kernel_rfl) (Nat.le_of_ble_eq_true rfl) ?_
 refine ARun.go 60 ?_
 simp only [W, seval, c6, mapD_nil, mapD_cons, mapD_sl, Nat.reduceMul]
 refine callS_fn (AFn.sameW hE.only (by simp [wkL, wk]; rfl) rfl _) ?_
 rintro _ _ ⟨rfl, rfl⟩
 have hbs : ∀ s, fromBytes (byD s) = some s := fun s => fromBytes_map s
 refine ARun.go 60 ?_
 simp only [W, seval, c6, mapD_nil, mapD_cons, mapD_sl, Nat.reduceMul, hbs]
 refine callS_fn (AFn.sameW hT.only (by simp [wkL, wk]) rfl _) ?_
 rintro _ _ ⟨rfl, rfl⟩
 refine ARun.go 60 ?_
 simp only [W, seval, c6]
 refine ARun.ret Tryz.func6 rfl (id ?_)
 exact rfl
end Go.Proofs.YtfaoamebphckbaaGreatDoor
