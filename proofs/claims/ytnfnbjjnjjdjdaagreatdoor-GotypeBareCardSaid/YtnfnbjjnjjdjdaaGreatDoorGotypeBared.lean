/- GotypeBare answers true, for any program. Part 4 of 6 of the proof. -/
import Derived.Test.YtnfnbjjnjjdjdaaGreatDoorGotypeBarec
namespace Go.Proofs.YtnfnbjjnjjdjdaaGreatDoor
open Go.RowKit Go.Av Go.Ab
set_option linter.unusedSimpArgs false
set_option maxRecDepth 100000
set_option linter.defProp false
def Qc := by
 have c := aN Tryz.f41 (by conv => lhs; cbv)
 dsimp only [KK, fj, eR, eS, List.map_cons, List.map_nil, List.toList_toArray] at c
 exact c
theorem b41 : bK Tryz.prog 41 Tryz.f41 32 := ⟨Tryz.func41, by kernel_rfl⟩
set_option maxHeartbeats 1000000 in
theorem kH (g : FuncId) (first caps : List V) (e : az → az → Bool) (a b : List az) (B : List (List V)) (T : List (Nat × Nat)) (hg : ∀ x ∈ a, ∀ y ∈ b, ∀ J, aD Tryz.prog av g (first ++ [aT x, aT y] ++ caps) ⟨B ++ J, T⟩ (aB (.d (.bool (e x y))) ⟨B ++ J, T⟩)) :
 aD Tryz.prog av 41 [.d (.sl (a.map ej)), .d (.sl (b.map ej)), .func g first caps] ⟨B, T⟩ (aB (.d (.bool (fP e a b))) ⟨B, T⟩) := by
 obtain ⟨N, hn⟩ : ∃ N, B.length = N := ⟨_, rfl⟩
 refine b41.go 8 rfl fun bh => ?_
 simp only [eI] at bh
 simp only [W, seval, Qc, hn]
 refine af.Ea fun wV => ?_
 have me := wV 2
 simp only [gD, jS, mI, Nat.reduceBEq, Nat.reduceAdd, Nat.reduceSub, cond_true, cond_false, hn] at me
 clear wV
 by_cases hl : a.length = b.length
 case neg =>
  have kU : decide ((a.length : Int) = (b.length : Int)) = false := decide_eq_false (by omega)
  refine af.go 200 ?_
  simp only [W, seval, Qc, kU, hn]
  refine af.ret Tryz.func41 rfl (Left.none ?_)
  rw [kW e a b hl]
  exact ⟨rfl, rfl⟩
 have kU : decide ((a.length : Int) = (b.length : Int)) = true := decide_eq_true (by omega)
 refine af.go 30 ?_
 simp only [W, seval, Qc, kU, hn]
 refine af.fits fun hf => ?_
 refine af.ir (fun i : Nat => (bu 32 [(1, .d (.sl (b.map ej))), (2, .func g first caps), (15, .d (.sl (a.map ej))), (16, .d (.int .i64 a.length)), (17, .d (.int .i64 i))], ⟨B, T⟩)) (fun i => i ≤ a.length ∧ fP e a b = fP e (a.drop i) (b.drop i)) (fun i => a.length - i) 0 ⟨by omega, rfl⟩ ?_ rfl ?_
 ·skip
  refine ay.env _ ?_
  simp only [cZ, seval, hn]
 rintro i ⟨h1, h2⟩ ih
 dsimp only at h1 h2 ih ⊢
 by_cases au : i < a.length
 ·have hw := aI ((i : Int) + 1) (by omega)
  have gP : i < b.length := by omega
  have wZ := List.getElem?_eq_getElem au
  have w6 := List.getElem?_eq_getElem gP
  have aH : decide ((i : Int) < (a.length : Int)) = true := decide_eq_true (by omega)
  rw [kr e a b i au gP] at h2
  have qE := hg a[i] (List.getElem_mem au) b[i] (List.getElem_mem gP)
  obtain ⟨x, hx⟩ : ∃ x, a[i] = x := ⟨_, rfl⟩
  obtain ⟨y, hy⟩ : ∃ y, b[i] = y := ⟨_, rfl⟩
  rw [hx] at wZ h2 qE
  rw [hy] at w6 h2 qE
  refine af.go 200 ?_
  simp only [W, seval, Qc, hn, List.getElem?_map, wZ, w6, aH, cO]
  refine aQ (qE _) ?_
  rintro _ _ ⟨rfl, rfl⟩
  refine af.go 200 ?_
  simp only [W, seval, Qc, hn]
  cases he : e x y
  ·simp only [W, seval, Qc, hn, he]
   refine af.ret Tryz.func41 rfl (Left.box ?_)
   rw [h2, he]
   exact ⟨rfl, rfl⟩
  ·simp only [W, seval, Qc, hn, he, hw]
   rw [he, Bool.true_and] at h2
   refine ih (i + 1) ⟨au, h2⟩ (by omega) _ _ _ _ rfl ⟨by omega, Nat.le_refl _⟩ hf ?_
   refine cC.env _ ?_
   simp only [yq, seval, hn]
   exact me
 ·have aH : decide ((i : Int) < (a.length : Int)) = false := decide_eq_false (by omega)
  refine af.go 200 ?_
  simp only [W, seval, Qc, hn, aH]
  refine af.ret Tryz.func41 rfl (Left.none ?_)
  rw [h2, mK e a b i (by omega) (by omega)]
  exact ⟨rfl, rfl⟩
def Qd := by
 have c := aN Tryz.f87 (by conv => lhs; cbv)
 dsimp only [KK, fj, eR, eS, List.map_cons, List.map_nil, List.toList_toArray] at c
 exact c
theorem b87 : bK Tryz.prog 87 Tryz.f87 32 := ⟨Tryz.func87, by kernel_rfl⟩
set_option maxHeartbeats 1000000 in
theorem kI (g : FuncId) (first caps : List V) (e : aj → aj → Bool) (a b : List aj) (B : List (List V)) (T : List (Nat × Nat)) (hg : ∀ x ∈ a, ∀ y ∈ b, ∀ J, aD Tryz.prog av g (first ++ [ry x, ry y] ++ caps) ⟨B ++ J, T⟩ (aB (.d (.bool (e x y))) ⟨B ++ J, T⟩)) :
 aD Tryz.prog av 87 [.d (.sl (a.map eH)), .d (.sl (b.map eH)), .func g first caps] ⟨B, T⟩ (aB (.d (.bool (fP e a b))) ⟨B, T⟩) := by
 obtain ⟨N, hn⟩ : ∃ N, B.length = N := ⟨_, rfl⟩
 refine b87.go 8 rfl fun bh => ?_
 simp only [eI] at bh
 simp only [W, seval, Qd, hn]
 refine af.Ea fun wV => ?_
 have me := wV 2
 simp only [gD, jS, mI, Nat.reduceBEq, Nat.reduceAdd, Nat.reduceSub, cond_true, cond_false, hn] at me
 clear wV
 by_cases hl : a.length = b.length
 case neg =>
  have kU : decide ((a.length : Int) = (b.length : Int)) = false := decide_eq_false (by omega)
  refine af.go 200 ?_
  simp only [W, seval, Qd, kU, hn]
  refine af.ret Tryz.func87 rfl (Left.none ?_)
  rw [kW e a b hl]
  exact ⟨rfl, rfl⟩
 have kU : decide ((a.length : Int) = (b.length : Int)) = true := decide_eq_true (by omega)
 refine af.go 30 ?_
 simp only [W, seval, Qd, kU, hn]
 refine af.fits fun hf => ?_
 refine af.ir (fun i : Nat => (bu 32 [(1, .d (.sl (b.map eH))), (2, .func g first caps), (15, .d (.sl (a.map eH))), (16, .d (.int .i64 a.length)), (17, .d (.int .i64 i))], ⟨B, T⟩)) (fun i => i ≤ a.length ∧ fP e a b = fP e (a.drop i) (b.drop i)) (fun i => a.length - i) 0 ⟨by omega, rfl⟩ ?_ rfl ?_
 ·skip
  refine ay.env _ ?_
  simp only [cZ, seval, hn]
 rintro i ⟨h1, h2⟩ ih
 dsimp only at h1 h2 ih ⊢
 by_cases au : i < a.length
 ·have hw := aI ((i : Int) + 1) (by omega)
  have gP : i < b.length := by omega
  have wZ := List.getElem?_eq_getElem au
  have w6 := List.getElem?_eq_getElem gP
  have aH : decide ((i : Int) < (a.length : Int)) = true := decide_eq_true (by omega)
  rw [kr e a b i au gP] at h2
  have qE := hg a[i] (List.getElem_mem au) b[i] (List.getElem_mem gP)
  obtain ⟨x, hx⟩ : ∃ x, a[i] = x := ⟨_, rfl⟩
  obtain ⟨y, hy⟩ : ∃ y, b[i] = y := ⟨_, rfl⟩
  rw [hx] at wZ h2 qE
  rw [hy] at w6 h2 qE
  refine af.go 200 ?_
  simp only [W, seval, Qd, hn, List.getElem?_map, wZ, w6, aH, cP]
  refine aQ (qE _) ?_
  rintro _ _ ⟨rfl, rfl⟩
  refine af.go 200 ?_
  simp only [W, seval, Qd, hn]
  cases he : e x y
  ·simp only [W, seval, Qd, hn, he]
   refine af.ret Tryz.func87 rfl (Left.box ?_)
   rw [h2, he]
   exact ⟨rfl, rfl⟩
  ·simp only [W, seval, Qd, hn, he, hw]
   rw [he, Bool.true_and] at h2
   refine ih (i + 1) ⟨au, h2⟩ (by omega) _ _ _ _ rfl ⟨by omega, Nat.le_refl _⟩ hf ?_
   refine cC.env _ ?_
   simp only [yq, seval, hn]
   exact me
 ·have aH : decide ((i : Int) < (a.length : Int)) = false := decide_eq_false (by omega)
  refine af.go 200 ?_
  simp only [W, seval, Qd, hn, aH]
  refine af.ret Tryz.func87 rfl (Left.none ?_)
  rw [h2, mK e a b i (by omega) (by omega)]
  exact ⟨rfl, rfl⟩
def Qe := by
 have c := aN Tryz.f42 (by conv => lhs; cbv)
 dsimp only [KK, fj, eR, eS, List.map_cons, List.map_nil, List.toList_toArray] at c
 exact c
theorem b42 : bK Tryz.prog 42 Tryz.f42 32 := ⟨Tryz.func42, by kernel_rfl⟩
set_option maxHeartbeats 1000000 in
theorem iI (g : FuncId) (first caps : List V) (e : aF → aF → Bool) (a b : List aF) (B : List (List V)) (T : List (Nat × Nat)) (hg : ∀ x ∈ a, ∀ y ∈ b, ∀ J, aD Tryz.prog av g (first ++ [zZ x, zZ y] ++ caps) ⟨B ++ J, T⟩ (aB (.d (.bool (e x y))) ⟨B ++ J, T⟩)) :
 aD Tryz.prog av 42 [.d (.sl (a.map dL)), .d (.sl (b.map dL)), .func g first caps] ⟨B, T⟩ (aB (.d (.bool (fP e a b))) ⟨B, T⟩) := by
 obtain ⟨N, hn⟩ : ∃ N, B.length = N := ⟨_, rfl⟩
 refine b42.go 8 rfl fun bh => ?_
 simp only [eI] at bh
 simp only [W, seval, Qe, hn]
 refine af.Ea fun wV => ?_
 have me := wV 2
 simp only [gD, jS, mI, Nat.reduceBEq, Nat.reduceAdd, Nat.reduceSub, cond_true, cond_false, hn] at me
 clear wV
 by_cases hl : a.length = b.length
 case neg =>
  have kU : decide ((a.length : Int) = (b.length : Int)) = false := decide_eq_false (by omega)
  refine af.go 200 ?_
  simp only [W, seval, Qe, kU, hn]
  refine af.ret Tryz.func42 rfl (Left.none ?_)
  rw [kW e a b hl]
  exact ⟨rfl, rfl⟩
 have kU : decide ((a.length : Int) = (b.length : Int)) = true := decide_eq_true (by omega)
 refine af.go 30 ?_
 simp only [W, seval, Qe, kU, hn]
 refine af.fits fun hf => ?_
 refine af.ir (fun i : Nat => (bu 32 [(1, .d (.sl (b.map dL))), (2, .func g first caps), (15, .d (.sl (a.map dL))), (16, .d (.int .i64 a.length)), (17, .d (.int .i64 i))], ⟨B, T⟩)) (fun i => i ≤ a.length ∧ fP e a b = fP e (a.drop i) (b.drop i)) (fun i => a.length - i) 0 ⟨by omega, rfl⟩ ?_ rfl ?_
 ·skip
  refine ay.env _ ?_
  simp only [cZ, seval, hn]
 rintro i ⟨h1, h2⟩ ih
 dsimp only at h1 h2 ih ⊢
 by_cases au : i < a.length
 ·have hw := aI ((i : Int) + 1) (by omega)
  have gP : i < b.length := by omega
  have wZ := List.getElem?_eq_getElem au
  have w6 := List.getElem?_eq_getElem gP
  have aH : decide ((i : Int) < (a.length : Int)) = true := decide_eq_true (by omega)
  rw [kr e a b i au gP] at h2
  have qE := hg a[i] (List.getElem_mem au) b[i] (List.getElem_mem gP)
  obtain ⟨x, hx⟩ : ∃ x, a[i] = x := ⟨_, rfl⟩
  obtain ⟨y, hy⟩ : ∃ y, b[i] = y := ⟨_, rfl⟩
  rw [hx] at wZ h2 qE
  rw [hy] at w6 h2 qE
  refine af.go 200 ?_
  simp only [W, seval, Qe, hn, List.getElem?_map, wZ, w6, aH, bY]
  refine aQ (qE _) ?_
  rintro _ _ ⟨rfl, rfl⟩
  refine af.go 200 ?_
  simp only [W, seval, Qe, hn]
  cases he : e x y
  ·simp only [W, seval, Qe, hn, he]
   refine af.ret Tryz.func42 rfl (Left.box ?_)
   rw [h2, he]
   exact ⟨rfl, rfl⟩
  ·simp only [W, seval, Qe, hn, he, hw]
   rw [he, Bool.true_and] at h2
   refine ih (i + 1) ⟨au, h2⟩ (by omega) _ _ _ _ rfl ⟨by omega, Nat.le_refl _⟩ hf ?_
   refine cC.env _ ?_
   simp only [yq, seval, hn]
   exact me
 ·have aH : decide ((i : Int) < (a.length : Int)) = false := decide_eq_false (by omega)
  refine af.go 200 ?_
  simp only [W, seval, Qe, hn, aH]
  refine af.ret Tryz.func42 rfl (Left.none ?_)
  rw [h2, mK e a b i (by omega) (by omega)]
  exact ⟨rfl, rfl⟩
def Qf := by
 have c := aN Tryz.f89 (by conv => lhs; cbv)
 dsimp only [KK, fj, eR, eS, List.map_cons, List.map_nil, List.toList_toArray] at c
 exact c
theorem b89 : bK Tryz.prog 89 Tryz.f89 32 := ⟨Tryz.func89, by kernel_rfl⟩
set_option maxHeartbeats 1000000 in
theorem v8 (g : FuncId) (first caps : List V) (e : cQ → cQ → Bool) (a b : List cQ) (B : List (List V)) (T : List (Nat × Nat)) (hg : ∀ x ∈ a, ∀ y ∈ b, ∀ J, aD Tryz.prog av g (first ++ [Gc x, Gc y] ++ caps) ⟨B ++ J, T⟩ (aB (.d (.bool (e x y))) ⟨B ++ J, T⟩)) :
 aD Tryz.prog av 89 [.d (.sl (a.map jJ)), .d (.sl (b.map jJ)), .func g first caps] ⟨B, T⟩ (aB (.d (.bool (fP e a b))) ⟨B, T⟩) := by
 obtain ⟨N, hn⟩ : ∃ N, B.length = N := ⟨_, rfl⟩
 refine b89.go 8 rfl fun bh => ?_
 simp only [eI] at bh
 simp only [W, seval, Qf, hn]
 refine af.Ea fun wV => ?_
 have me := wV 2
 simp only [gD, jS, mI, Nat.reduceBEq, Nat.reduceAdd, Nat.reduceSub, cond_true, cond_false, hn] at me
 clear wV
 by_cases hl : a.length = b.length
 case neg =>
  have kU : decide ((a.length : Int) = (b.length : Int)) = false := decide_eq_false (by omega)
  refine af.go 200 ?_
  simp only [W, seval, Qf, kU, hn]
  refine af.ret Tryz.func89 rfl (Left.none ?_)
  rw [kW e a b hl]
  exact ⟨rfl, rfl⟩
 have kU : decide ((a.length : Int) = (b.length : Int)) = true := decide_eq_true (by omega)
 refine af.go 30 ?_
 simp only [W, seval, Qf, kU, hn]
 refine af.fits fun hf => ?_
 refine af.ir (fun i : Nat => (bu 32 [(1, .d (.sl (b.map jJ))), (2, .func g first caps), (15, .d (.sl (a.map jJ))), (16, .d (.int .i64 a.length)), (17, .d (.int .i64 i))], ⟨B, T⟩)) (fun i => i ≤ a.length ∧ fP e a b = fP e (a.drop i) (b.drop i)) (fun i => a.length - i) 0 ⟨by omega, rfl⟩ ?_ rfl ?_
 ·skip
  refine ay.env _ ?_
  simp only [cZ, seval, hn]
 rintro i ⟨h1, h2⟩ ih
 dsimp only at h1 h2 ih ⊢
 by_cases au : i < a.length
 ·have hw := aI ((i : Int) + 1) (by omega)
  have gP : i < b.length := by omega
  have wZ := List.getElem?_eq_getElem au
  have w6 := List.getElem?_eq_getElem gP
  have aH : decide ((i : Int) < (a.length : Int)) = true := decide_eq_true (by omega)
  rw [kr e a b i au gP] at h2
  have qE := hg a[i] (List.getElem_mem au) b[i] (List.getElem_mem gP)
  obtain ⟨x, hx⟩ : ∃ x, a[i] = x := ⟨_, rfl⟩
  obtain ⟨y, hy⟩ : ∃ y, b[i] = y := ⟨_, rfl⟩
  rw [hx] at wZ h2 qE
  rw [hy] at w6 h2 qE
  refine af.go 200 ?_
  simp only [W, seval, Qf, hn, List.getElem?_map, wZ, w6, aH, gr]
  refine aQ (qE _) ?_
  rintro _ _ ⟨rfl, rfl⟩
  refine af.go 200 ?_
  simp only [W, seval, Qf, hn]
  cases he : e x y
  ·simp only [W, seval, Qf, hn, he]
   refine af.ret Tryz.func89 rfl (Left.box ?_)
   rw [h2, he]
   exact ⟨rfl, rfl⟩
  ·simp only [W, seval, Qf, hn, he, hw]
   rw [he, Bool.true_and] at h2
   refine ih (i + 1) ⟨au, h2⟩ (by omega) _ _ _ _ rfl ⟨by omega, Nat.le_refl _⟩ hf ?_
   refine cC.env _ ?_
   simp only [yq, seval, hn]
   exact me
 ·have aH : decide ((i : Int) < (a.length : Int)) = false := decide_eq_false (by omega)
  refine af.go 200 ?_
  simp only [W, seval, Qf, hn, aH]
  refine af.ret Tryz.func89 rfl (Left.none ?_)
  rw [h2, mK e a b i (by omega) (by omega)]
  exact ⟨rfl, rfl⟩
def Qg := by
 have c := aN Tryz.f39 (by conv => lhs; cbv)
 dsimp only [KK, fj, eR, eS, List.map_cons, List.map_nil, List.toList_toArray] at c
 exact c
theorem b39 : bK Tryz.prog 39 Tryz.f39 32 := ⟨Tryz.func39, by kernel_rfl⟩
set_option maxHeartbeats 1000000 in
theorem nj (g : FuncId) (first caps : List V) (e : bI → bI → Bool) (a b : List bI) (B : List (List V)) (T : List (Nat × Nat)) (hg : ∀ x ∈ a, ∀ y ∈ b, ∀ J, aD Tryz.prog av g (first ++ [AS x, AS y] ++ caps) ⟨B ++ J, T⟩ (aB (.d (.bool (e x y))) ⟨B ++ J, T⟩)) :
 aD Tryz.prog av 39 [.d (.sl (a.map gI)), .d (.sl (b.map gI)), .func g first caps] ⟨B, T⟩ (aB (.d (.bool (fP e a b))) ⟨B, T⟩) := by
 obtain ⟨N, hn⟩ : ∃ N, B.length = N := ⟨_, rfl⟩
 refine b39.go 8 rfl fun bh => ?_
 simp only [eI] at bh
 simp only [W, seval, Qg, hn]
 refine af.Ea fun wV => ?_
 have me := wV 2
 simp only [gD, jS, mI, Nat.reduceBEq, Nat.reduceAdd, Nat.reduceSub, cond_true, cond_false, hn] at me
 clear wV
 by_cases hl : a.length = b.length
 case neg =>
  have kU : decide ((a.length : Int) = (b.length : Int)) = false := decide_eq_false (by omega)
  refine af.go 200 ?_
  simp only [W, seval, Qg, kU, hn]
  refine af.ret Tryz.func39 rfl (Left.none ?_)
  rw [kW e a b hl]
  exact ⟨rfl, rfl⟩
 have kU : decide ((a.length : Int) = (b.length : Int)) = true := decide_eq_true (by omega)
 refine af.go 30 ?_
 simp only [W, seval, Qg, kU, hn]
 refine af.fits fun hf => ?_
 refine af.ir (fun i : Nat => (bu 32 [(1, .d (.sl (b.map gI))), (2, .func g first caps), (15, .d (.sl (a.map gI))), (16, .d (.int .i64 a.length)), (17, .d (.int .i64 i))], ⟨B, T⟩)) (fun i => i ≤ a.length ∧ fP e a b = fP e (a.drop i) (b.drop i)) (fun i => a.length - i) 0 ⟨by omega, rfl⟩ ?_ rfl ?_
 ·skip
  refine ay.env _ ?_
  simp only [cZ, seval, hn]
 rintro i ⟨h1, h2⟩ ih
 dsimp only at h1 h2 ih ⊢
 by_cases au : i < a.length
 ·have hw := aI ((i : Int) + 1) (by omega)
  have gP : i < b.length := by omega
  have wZ := List.getElem?_eq_getElem au
  have w6 := List.getElem?_eq_getElem gP
  have aH : decide ((i : Int) < (a.length : Int)) = true := decide_eq_true (by omega)
  rw [kr e a b i au gP] at h2
  have qE := hg a[i] (List.getElem_mem au) b[i] (List.getElem_mem gP)
  obtain ⟨x, hx⟩ : ∃ x, a[i] = x := ⟨_, rfl⟩
  obtain ⟨y, hy⟩ : ∃ y, b[i] = y := ⟨_, rfl⟩
  rw [hx] at wZ h2 qE
  rw [hy] at w6 h2 qE
  refine af.go 200 ?_
  simp only [W, seval, Qg, hn, List.getElem?_map, wZ, w6, aH, qq]
  refine aQ (qE _) ?_
  rintro _ _ ⟨rfl, rfl⟩
  refine af.go 200 ?_
  simp only [W, seval, Qg, hn]
  cases he : e x y
  ·simp only [W, seval, Qg, hn, he]
   refine af.ret Tryz.func39 rfl (Left.box ?_)
   rw [h2, he]
   exact ⟨rfl, rfl⟩
  ·simp only [W, seval, Qg, hn, he, hw]
   rw [he, Bool.true_and] at h2
   refine ih (i + 1) ⟨au, h2⟩ (by omega) _ _ _ _ rfl ⟨by omega, Nat.le_refl _⟩ hf ?_
   refine cC.env _ ?_
   simp only [yq, seval, hn]
   exact me
 ·have aH : decide ((i : Int) < (a.length : Int)) = false := decide_eq_false (by omega)
  refine af.go 200 ?_
  simp only [W, seval, Qg, hn, aH]
  refine af.ret Tryz.func39 rfl (Left.none ?_)
  rw [h2, mK e a b i (by omega) (by omega)]
  exact ⟨rfl, rfl⟩
def Qh := by
 have c := aN Tryz.f44 (by conv => lhs; cbv)
 dsimp only [KK, fj, eR, eS, List.map_cons, List.map_nil, List.toList_toArray] at c
 exact c
theorem b44 : bK Tryz.prog 44 Tryz.f44 32 := ⟨Tryz.func44, by kernel_rfl⟩
set_option maxHeartbeats 1000000 in
theorem sR (g : FuncId) (first caps : List V) (e : cM → cM → Bool) (a b : List cM) (B : List (List V)) (T : List (Nat × Nat)) (hg : ∀ x ∈ a, ∀ y ∈ b, ∀ J, aD Tryz.prog av g (first ++ [xC x, xC y] ++ caps) ⟨B ++ J, T⟩ (aB (.d (.bool (e x y))) ⟨B ++ J, T⟩)) :
 aD Tryz.prog av 44 [.d (.sl (a.map fJ)), .d (.sl (b.map fJ)), .func g first caps] ⟨B, T⟩ (aB (.d (.bool (fP e a b))) ⟨B, T⟩) := by
 obtain ⟨N, hn⟩ : ∃ N, B.length = N := ⟨_, rfl⟩
 refine b44.go 8 rfl fun bh => ?_
 simp only [eI] at bh
 simp only [W, seval, Qh, hn]
 refine af.Ea fun wV => ?_
 have me := wV 2
 simp only [gD, jS, mI, Nat.reduceBEq, Nat.reduceAdd, Nat.reduceSub, cond_true, cond_false, hn] at me
 clear wV
 by_cases hl : a.length = b.length
 case neg =>
  have kU : decide ((a.length : Int) = (b.length : Int)) = false := decide_eq_false (by omega)
  refine af.go 200 ?_
  simp only [W, seval, Qh, kU, hn]
  refine af.ret Tryz.func44 rfl (Left.none ?_)
  rw [kW e a b hl]
  exact ⟨rfl, rfl⟩
 have kU : decide ((a.length : Int) = (b.length : Int)) = true := decide_eq_true (by omega)
 refine af.go 30 ?_
 simp only [W, seval, Qh, kU, hn]
 refine af.fits fun hf => ?_
 refine af.ir (fun i : Nat => (bu 32 [(1, .d (.sl (b.map fJ))), (2, .func g first caps), (15, .d (.sl (a.map fJ))), (16, .d (.int .i64 a.length)), (17, .d (.int .i64 i))], ⟨B, T⟩)) (fun i => i ≤ a.length ∧ fP e a b = fP e (a.drop i) (b.drop i)) (fun i => a.length - i) 0 ⟨by omega, rfl⟩ ?_ rfl ?_
 ·skip
  refine ay.env _ ?_
  simp only [cZ, seval, hn]
 rintro i ⟨h1, h2⟩ ih
 dsimp only at h1 h2 ih ⊢
 by_cases au : i < a.length
 ·have hw := aI ((i : Int) + 1) (by omega)
  have gP : i < b.length := by omega
  have wZ := List.getElem?_eq_getElem au
  have w6 := List.getElem?_eq_getElem gP
  have aH : decide ((i : Int) < (a.length : Int)) = true := decide_eq_true (by omega)
  rw [kr e a b i au gP] at h2
  have qE := hg a[i] (List.getElem_mem au) b[i] (List.getElem_mem gP)
  obtain ⟨x, hx⟩ : ∃ x, a[i] = x := ⟨_, rfl⟩
  obtain ⟨y, hy⟩ : ∃ y, b[i] = y := ⟨_, rfl⟩
  rw [hx] at wZ h2 qE
  rw [hy] at w6 h2 qE
  refine af.go 200 ?_
  simp only [W, seval, Qh, hn, List.getElem?_map, wZ, w6, aH, K8]
  refine aQ (qE _) ?_
  rintro _ _ ⟨rfl, rfl⟩
  refine af.go 200 ?_
  simp only [W, seval, Qh, hn]
  cases he : e x y
  ·simp only [W, seval, Qh, hn, he]
   refine af.ret Tryz.func44 rfl (Left.box ?_)
   rw [h2, he]
   exact ⟨rfl, rfl⟩
  ·simp only [W, seval, Qh, hn, he, hw]
   rw [he, Bool.true_and] at h2
   refine ih (i + 1) ⟨au, h2⟩ (by omega) _ _ _ _ rfl ⟨by omega, Nat.le_refl _⟩ hf ?_
   refine cC.env _ ?_
   simp only [yq, seval, hn]
   exact me
 ·have aH : decide ((i : Int) < (a.length : Int)) = false := decide_eq_false (by omega)
  refine af.go 200 ?_
  simp only [W, seval, Qh, hn, aH]
  refine af.ret Tryz.func44 rfl (Left.none ?_)
  rw [h2, mK e a b i (by omega) (by omega)]
  exact ⟨rfl, rfl⟩
def Qi := by
 have c := aN Tryz.f45 (by conv => lhs; cbv)
 dsimp only [KK, fj, eR, eS, List.map_cons, List.map_nil, List.toList_toArray] at c
 exact c
theorem b45 : bK Tryz.prog 45 Tryz.f45 32 := ⟨Tryz.func45, by kernel_rfl⟩
set_option maxHeartbeats 1000000 in
theorem v9 (g : FuncId) (first caps : List V) (e : cR → cR → Bool) (a b : List cR) (B : List (List V)) (T : List (Nat × Nat)) (hg : ∀ x ∈ a, ∀ y ∈ b, ∀ J, aD Tryz.prog av g (first ++ [xD x, xD y] ++ caps) ⟨B ++ J, T⟩ (aB (.d (.bool (e x y))) ⟨B ++ J, T⟩)) :
 aD Tryz.prog av 45 [.d (.sl (a.map fK)), .d (.sl (b.map fK)), .func g first caps] ⟨B, T⟩ (aB (.d (.bool (fP e a b))) ⟨B, T⟩) := by
 obtain ⟨N, hn⟩ : ∃ N, B.length = N := ⟨_, rfl⟩
 refine b45.go 8 rfl fun bh => ?_
 simp only [eI] at bh
 simp only [W, seval, Qi, hn]
 refine af.Ea fun wV => ?_
 have me := wV 2
 simp only [gD, jS, mI, Nat.reduceBEq, Nat.reduceAdd, Nat.reduceSub, cond_true, cond_false, hn] at me
 clear wV
 by_cases hl : a.length = b.length
 case neg =>
  have kU : decide ((a.length : Int) = (b.length : Int)) = false := decide_eq_false (by omega)
  refine af.go 200 ?_
  simp only [W, seval, Qi, kU, hn]
  refine af.ret Tryz.func45 rfl (Left.none ?_)
  rw [kW e a b hl]
  exact ⟨rfl, rfl⟩
 have kU : decide ((a.length : Int) = (b.length : Int)) = true := decide_eq_true (by omega)
 refine af.go 30 ?_
 simp only [W, seval, Qi, kU, hn]
 refine af.fits fun hf => ?_
 refine af.ir (fun i : Nat => (bu 32 [(1, .d (.sl (b.map fK))), (2, .func g first caps), (15, .d (.sl (a.map fK))), (16, .d (.int .i64 a.length)), (17, .d (.int .i64 i))], ⟨B, T⟩)) (fun i => i ≤ a.length ∧ fP e a b = fP e (a.drop i) (b.drop i)) (fun i => a.length - i) 0 ⟨by omega, rfl⟩ ?_ rfl ?_
 ·skip
  refine ay.env _ ?_
  simp only [cZ, seval, hn]
 rintro i ⟨h1, h2⟩ ih
 dsimp only at h1 h2 ih ⊢
 by_cases au : i < a.length
 ·have hw := aI ((i : Int) + 1) (by omega)
  have gP : i < b.length := by omega
  have wZ := List.getElem?_eq_getElem au
  have w6 := List.getElem?_eq_getElem gP
  have aH : decide ((i : Int) < (a.length : Int)) = true := decide_eq_true (by omega)
  rw [kr e a b i au gP] at h2
  have qE := hg a[i] (List.getElem_mem au) b[i] (List.getElem_mem gP)
  obtain ⟨x, hx⟩ : ∃ x, a[i] = x := ⟨_, rfl⟩
  obtain ⟨y, hy⟩ : ∃ y, b[i] = y := ⟨_, rfl⟩
  rw [hx] at wZ h2 qE
  rw [hy] at w6 h2 qE
  refine af.go 200 ?_
  simp only [W, seval, Qi, hn, List.getElem?_map, wZ, w6, aH, qs]
  refine aQ (qE _) ?_
  rintro _ _ ⟨rfl, rfl⟩
  refine af.go 200 ?_
  simp only [W, seval, Qi, hn]
  cases he : e x y
  ·simp only [W, seval, Qi, hn, he]
   refine af.ret Tryz.func45 rfl (Left.box ?_)
   rw [h2, he]
   exact ⟨rfl, rfl⟩
  ·simp only [W, seval, Qi, hn, he, hw]
   rw [he, Bool.true_and] at h2
   refine ih (i + 1) ⟨au, h2⟩ (by omega) _ _ _ _ rfl ⟨by omega, Nat.le_refl _⟩ hf ?_
   refine cC.env _ ?_
   simp only [yq, seval, hn]
   exact me
 ·have aH : decide ((i : Int) < (a.length : Int)) = false := decide_eq_false (by omega)
  refine af.go 200 ?_
  simp only [W, seval, Qi, hn, aH]
  refine af.ret Tryz.func45 rfl (Left.none ?_)
  rw [h2, mK e a b i (by omega) (by omega)]
  exact ⟨rfl, rfl⟩
mutual
def w7 : az → az → Bool
 | .mk k n es, .mk k' n' RG => decide (k = k') && (decide (n = n') && qv es RG)
def qv : List az → List az → Bool
 | [], [] => true
 | t :: a, u :: b => w7 t u && qv a b
 | [], _ :: _ => false
 | _ :: _, [] => false
end
mutual
def DC : aj → aj → Bool
 | .mk k t i ty ns ks, .mk k' t' i' SW SX SY => decide (k = k') && (decide (t = t') && (decide (i = i') && (w7 ty SW && (decide (ns = SX) && uh ks SY))))
def uh : List aj → List aj → Bool
 | [], [] => true
 | t :: a, u :: b => DC t u && uh a b
 | [], _ :: _ => false
 | _ :: _, [] => false
end
mutual
def nB : aF → aF → Bool
 | .mk k ns ty ls es b e cs, .mk k' SX SW Wx RG b' e' LB => decide (k = k') && (decide (ns = SX) && (w7 ty SW && (uh ls Wx && (uh es RG && (nk b b' && (nk e e' && pW cs LB))))))
def nk : List aF → List aF → Bool
 | [], [] => true
 | t :: a, u :: b => nB t u && nk a b
 | [], _ :: _ => false
 | _ :: _, [] => false
def xG : cQ → cQ → Bool
 | .mk i b, .mk i' b' => decide (i = i') && nk b b'
def pW : List cQ → List cQ → Bool
 | [], [] => true
 | t :: a, u :: b => xG t u && pW a b
 | [], _ :: _ => false
 | _ :: _, [] => false
end
def xH (p q : bI) : Bool := decide (p.name = q.name) && w7 p.type q.type
def EY (p q : cM) : Bool := decide (p.name = q.name) && fP xH p.fields q.fields
def IS (p q : cR) : Bool := decide (p.name = q.name) && (fP xH p.params q.params && (fP w7 p.results q.results && fP nB p.body q.body))
def LC (p q : oV) : Bool := fP EY p.structs q.structs && fP IS p.funcs q.funcs
theorem LD : ∀ a b : List az, qv a b = fP w7 a b
 | [], [] => by rw [qv, fP]
 | t :: a, u :: b => by rw [qv, fP, LD a b]
 | [], _ :: _ => by rw [qv, fP] <;> simp
 | _ :: _, [] => by rw [qv, fP] <;> simp
theorem Ad : ∀ a b : List aj, uh a b = fP DC a b
 | [], [] => by rw [uh, fP]
 | t :: a, u :: b => by rw [uh, fP, Ad a b]
 | [], _ :: _ => by rw [uh, fP] <;> simp
 | _ :: _, [] => by rw [uh, fP] <;> simp
theorem uE : ∀ a b : List aF, nk a b = fP nB a b
 | [], [] => by rw [nk, fP]
 | t :: a, u :: b => by rw [nk, fP, uE a b]
 | [], _ :: _ => by rw [nk, fP] <;> simp
 | _ :: _, [] => by rw [nk, fP] <;> simp
theorem Gt : ∀ a b : List cQ, pW a b = fP xG a b
 | [], [] => by rw [pW, fP]
 | t :: a, u :: b => by rw [pW, fP, Gt a b]
 | [], _ :: _ => by rw [pW, fP] <;> simp
 | _ :: _, [] => by rw [pW, fP] <;> simp
theorem RH (t u : az) : w7 t u = (decide (t.kind = u.kind) && (decide (t.name = u.name) && fP w7 t.elem u.elem)) := by
 cases t; cases u
 rw [w7, LD]
 rfl
theorem RI (t u : aj) : DC t u = (decide (t.kind = u.kind) && (decide (t.text = u.text) && (decide (t.int = u.int) && (w7 t.type u.type && (decide (t.names = u.names) && fP DC t.kids u.kids))))) := by
 cases t; cases u
 rw [DC, Ad]
 rfl
theorem Oq (t u : aF) : nB t u = (decide (t.kind = u.kind) && (decide (t.names = u.names) && (w7 t.type u.type && (fP DC t.aG u.aG && (fP DC t.exprs u.exprs && (fP nB t.body u.body && (fP nB t.dO u.dO && fP xG t.cases u.cases))))))) := by
 cases t; cases u
 rw [nB, Ad, Ad, uE, uE, Gt]
 rfl
theorem Ot (t u : cQ) : xG t u = (decide (t.int = u.int) && fP nB t.body u.body) := by
 cases t; cases u
 rw [xG, uE]
 rfl
def Qj := by
 have c := aN Tryz.f86 (by conv => lhs; cbv)
 dsimp only [KK, fj, eR, eS, List.map_cons, List.map_nil, List.toList_toArray] at c
 exact c
theorem b86 : bK Tryz.prog 86 Tryz.f86 26 := ⟨Tryz.func86, by kernel_rfl⟩
def Wy := by
 have c := aN Tryz.f37 (by conv => lhs; cbv)
 dsimp only [KK, fj, eR, eS, List.map_cons, List.map_nil, List.toList_toArray] at c
 exact c
theorem Yu : bK Tryz.prog 37 Tryz.f37 24 := ⟨Tryz.func37, by kernel_rfl⟩
def Ou := by
 have c := aN Tryz.f88 (by conv => lhs; cbv)
 dsimp only [KK, fj, eR, eS, List.map_cons, List.map_nil, List.toList_toArray] at c
 exact c
theorem Wz : bK Tryz.prog 88 Tryz.f88 45 := ⟨Tryz.func88, by kernel_rfl⟩
def Yv := by
 have c := aN Tryz.f85 (by conv => lhs; cbv)
 dsimp only [KK, fj, eR, eS, List.map_cons, List.map_nil, List.toList_toArray] at c
 exact c
theorem b85 : bK Tryz.prog 85 Tryz.f85 17 := ⟨Tryz.func85, by kernel_rfl⟩
def EZ := by
 have c := aN Tryz.f43 (by conv => lhs; cbv)
 dsimp only [KK, fj, eR, eS, List.map_cons, List.map_nil, List.toList_toArray] at c
 exact c
theorem b43 : bK Tryz.prog 43 Tryz.f43 61 := ⟨Tryz.func43, by kernel_rfl⟩
theorem Cs (a b : List (List UInt8)) (i : Nat) (h : i < a.length) (h' : i < b.length) : decide (a.drop i = b.drop i) = (decide (a[i] = b[i]) && decide (a.drop (i + 1) = b.drop (i + 1))) := by
 rw [List.drop_eq_getElem_cons h, List.drop_eq_getElem_cons h']
 generalize a[i] = x
 generalize b[i] = y
 generalize a.drop (i + 1) = p
 generalize b.drop (i + 1) = q
 by_cases h1 : x = y <;> by_cases h2 : p = q <;> simp [h1, h2]
set_option maxHeartbeats 1000000 in
theorem Ct (a b : List (List UInt8)) :
 aD Tryz.prog av 86 [.d (.sl (gu a)), .d (.sl (gu b))] ⟨[], []⟩ (aB (.d (.bool (decide (a = b)))) ⟨[], []⟩) := by
 refine b86.go 8 rfl fun bh => ?_
 simp only [eI] at bh
 simp only [W, seval, Qj]
 by_cases hl : a.length = b.length
 case neg =>
  have kU : decide ((a.length : Int) = (b.length : Int)) = false := decide_eq_false (by omega)
  have bV : decide (a = b) = false := decide_eq_false (fun e => hl (by rw [e]))
  refine af.go 200 ?_
  simp only [W, seval, Qj, kU]
  refine af.ret Tryz.func86 rfl (Left.empty ?_)
  rw [bV]
  exact ⟨rfl, rfl⟩
 have kU : decide ((a.length : Int) = (b.length : Int)) = true := decide_eq_true (by omega)
 refine af.go 30 ?_
 simp only [W, seval, Qj, kU]
 refine af.cJ (fun i : Nat => (bu 26 [(0, .d (.sl (gu a))), (1, .d (.sl (gu b))), (12, .d (.int .i64 a.length)), (13, .d (.int .i64 i))], ⟨[], []⟩)) (fun i => i ≤ a.length ∧ decide (a = b) = decide (a.drop i = b.drop i)) (fun i => a.length - i) 0 ⟨by omega, rfl⟩ ?_ rfl ?_
 ·skip
  refine ay.env _ ?_
  simp only [cZ, seval]
 rintro i ⟨h1, h2⟩ ih
 dsimp only at h1 h2 ih ⊢
 by_cases au : i < a.length
 ·have hw := aI ((i : Int) + 1) (by omega)
  have gP : i < b.length := by omega
  have wZ := List.getElem?_eq_getElem au
  have w6 := List.getElem?_eq_getElem gP
  have aH : decide ((i : Int) < (a.length : Int)) = true := decide_eq_true (by omega)
  have aau : decide ((i : Int) < (b.length : Int)) = true := decide_eq_true (by omega)
  rw [Cs a b i au gP] at h2
  refine af.go 20 ?_
  simp only [W, seval, Qj, aH]
  refine af.draw (by kernel_rfl) (by kernel_rfl) (oO 60 _ _ ?_)
  simp only [W, seval, Qj, wZ, w6, gP]
  cases he : decide (a[i] = b[i])
  ·refine af.go 200 ?_
   simp only [W, seval, Qj, he]
   refine af.ret Tryz.func86 rfl (Left.empty ?_)
   rw [h2, he]
   exact ⟨rfl, rfl⟩
  ·refine af.go 200 ?_
   simp only [W, seval, Qj, he, hw]
   rw [he, Bool.true_and] at h2
   refine ih (i + 1) ⟨au, h2⟩ (by omega) _ _ ?_ rfl
   refine ay.env _ ?_
   simp only [cZ, seval]
 ·have aH : decide ((i : Int) < (a.length : Int)) = false := decide_eq_false (by omega)
  refine af.go 200 ?_
  simp only [W, seval, Qj, aH]
  refine af.ret Tryz.func86 rfl (Left.empty ?_)
  rw [h2, List.drop_eq_nil_of_le (by omega), List.drop_eq_nil_of_le (by omega)]
  exact ⟨rfl, rfl⟩
theorem we (a b : List (List UInt8)) (S : Mem) : aD Tryz.prog av 86 [.d (.sl (gu a)), .d (.sl (gu b))] S (aB (.d (.bool (decide (a = b)))) S) := (Ct a b).same rfl rfl S
def Ov (t : az) : Prop := ∀ (u : az) (S : Mem), aD Tryz.prog av 37 [aT t, aT u] S (aB (.d (.bool (w7 t u))) S)
set_option maxHeartbeats 1000000 in
theorem xI (t : az) (h : ∀ x ∈ t.elem, Ov x) : Ov t := by
 intro u S
 refine aD.same (v := .d (.bool (w7 t u))) ?_ rfl rfl S
 rw [RH]
 have he := fun B T => kH 37 [] [] w7 t.elem u.elem B T (fun x hx y _ J => h x hx y _)
 unfold aT
 cases h1 : decide (t.kind = u.kind)
 ·refine Yu.go 200 rfl fun _ => ?_
  simp only [W, seval, Wy, h1]
  refine af.ret Tryz.func37 rfl (Left.empty ?_)
  exact ⟨rfl, rfl⟩
 cases h2 : decide (t.name = u.name)
 ·refine Yu.go 200 rfl fun _ => ?_
  simp only [W, seval, Wy, h1, h2]
  refine af.ret Tryz.func37 rfl (Left.empty ?_)
  exact ⟨rfl, rfl⟩
 refine Yu.go 200 rfl fun _ => ?_
 simp only [W, seval, Wy, h1, h2]
 refine ag (he _ _) ?_
 rintro _ _ ⟨rfl, rfl⟩
 refine af.go 200 ?_
 simp only [W, seval, Wy]
 refine af.ret Tryz.func37 rfl (Left.empty ?_)
 exact ⟨rfl, rfl⟩
mutual
theorem gW : ∀ t : az, Ov t
 | .mk k n es => xI (.mk k n es) (rG es)
theorem rG : ∀ (ts : List az), ∀ x ∈ ts, Ov x
 | [], _, h => absurd h List.not_mem_nil
 | y :: l, x, h => by
  rcases List.mem_cons.1 h with e | e
  ·rw [e]; exact gW y
  ·exact rG l x e
end
def Ow (t : aj) : Prop := ∀ (u : aj) (S : Mem), aD Tryz.prog av 88 [ry t, ry u] S (aB (.d (.bool (DC t u))) S)
set_option maxHeartbeats 2000000 in
theorem xJ (t : aj) (h : ∀ x ∈ t.kids, Ow x) : Ow t := by
 intro u S
 refine aD.same (v := .d (.bool (DC t u))) ?_ rfl rfl S
 rw [RI]
 have he := fun B T => kI 88 [] [] DC t.kids u.kids B T (fun x hx y _ J => h x hx y _)
 have fk := gW t.type u.type
 have Yw := we t.names u.names
 unfold aT at fk
 unfold ry
 cases h1 : decide (t.kind = u.kind)
 ·refine Wz.go 200 rfl fun _ => ?_
  simp only [W, seval, Ou, h1]
  refine af.ret Tryz.func88 rfl (Left.empty ?_)
  exact ⟨rfl, rfl⟩
 cases h2 : decide (t.text = u.text)
 ·refine Wz.go 200 rfl fun _ => ?_
  simp only [W, seval, Ou, h1, h2]
  refine af.ret Tryz.func88 rfl (Left.empty ?_)
  exact ⟨rfl, rfl⟩
 cases h3 : decide (t.int = u.int)
 ·refine Wz.go 200 rfl fun _ => ?_
  simp only [W, seval, Ou, h1, h2, h3]
  refine af.ret Tryz.func88 rfl (Left.empty ?_)
  exact ⟨rfl, rfl⟩
 refine Wz.go 200 rfl fun _ => ?_
 simp only [W, seval, Ou, h1, h2, h3]
 refine ag (fk _) ?_
 rintro _ _ ⟨rfl, rfl⟩
 cases h4 : w7 t.type u.type
 ·refine af.go 200 ?_
  simp only [W, seval, Ou, h4]
  refine af.ret Tryz.func88 rfl (Left.empty ?_)
  exact ⟨rfl, rfl⟩
 refine af.go 200 ?_
 simp only [W, seval, Ou, h4]
 refine ag (Yw _) ?_
 rintro _ _ ⟨rfl, rfl⟩
 cases h5 : decide (t.names = u.names)
 ·refine af.go 200 ?_
  simp only [W, seval, Ou, h5]
  refine af.ret Tryz.func88 rfl (Left.empty ?_)
  exact ⟨rfl, rfl⟩
 refine af.go 200 ?_
 simp only [W, seval, Ou, h5]
 refine ag (he _ _) ?_
 rintro _ _ ⟨rfl, rfl⟩
 refine af.go 200 ?_
 simp only [W, seval, Ou]
 refine af.ret Tryz.func88 rfl (Left.empty ?_)
 exact ⟨rfl, rfl⟩
mutual
theorem oq : ∀ t : aj, Ow t
 | .mk k t i ty ns ks => xJ (.mk k t i ty ns ks) (rH ks)
theorem rH : ∀ (ts : List aj), ∀ x ∈ ts, Ow x
 | [], _, h => absurd h List.not_mem_nil
 | y :: l, x, h => by
  rcases List.mem_cons.1 h with e | e
  ·rw [e]; exact oq y
  ·exact rH l x e
end
def Cu (t : aF) : Prop := ∀ (u : aF) (S : Mem), aD Tryz.prog av 43 [zZ t, zZ u] S (aB (.d (.bool (nB t u))) S)
set_option maxHeartbeats 1000000 in
theorem Cv (t : cQ) (h : ∀ x ∈ t.body, Cu x) (u : cQ) (S : Mem) : aD Tryz.prog av 85 [Gc t, Gc u] S (aB (.d (.bool (xG t u))) S) := by
 refine aD.same (v := .d (.bool (xG t u))) ?_ rfl rfl S
 rw [Ot]
 have he := fun B T => iI 43 [] [] nB t.body u.body B T (fun x hx y _ J => h x hx y _)
 unfold Gc
 cases h1 : decide (t.int = u.int)
 ·refine b85.go 200 rfl fun _ => ?_
  simp only [W, seval, Yv, h1]
  refine af.ret Tryz.func85 rfl (Left.empty ?_)
  exact ⟨rfl, rfl⟩
 refine b85.go 200 rfl fun _ => ?_
 simp only [W, seval, Yv, h1]
 refine ag (he _ _) ?_
 rintro _ _ ⟨rfl, rfl⟩
 refine af.go 200 ?_
 simp only [W, seval, Yv]
 refine af.ret Tryz.func85 rfl (Left.empty ?_)
 exact ⟨rfl, rfl⟩
set_option maxHeartbeats 4000000 in
theorem xK (t : aF) (hb : ∀ x ∈ t.body, Cu x) (hl : ∀ x ∈ t.dO, Cu x) (hc : ∀ c ∈ t.cases, ∀ x ∈ c.body, Cu x) : Cu t := by
 intro u S
 refine aD.same (v := .d (.bool (nB t u))) ?_ rfl rfl S
 rw [Oq]
 have Yw := we t.names u.names
 have fk := gW t.type u.type
 have hle := fun B T => kI 88 [] [] DC t.aG u.aG B T (fun x hx y _ J => oq x y _)
 have hex := fun B T => kI 88 [] [] DC t.exprs u.exprs B T (fun x hx y _ J => oq x y _)
 have z8 := fun B T => iI 43 [] [] nB t.body u.body B T (fun x hx y _ J => hb x hx y _)
 have G2 := fun B T => iI 43 [] [] nB t.dO u.dO B T (fun x hx y _ J => hl x hx y _)
 have ME := fun B T => v8 85 [] [] xG t.cases u.cases B T (fun x hx y _ J => Cv x (hc x hx) y _)
 unfold aT at fk
 unfold zZ
 cases h1 : decide (t.kind = u.kind)
 ·refine b43.go 200 rfl fun _ => ?_
  simp only [W, seval, EZ, h1]
  refine af.ret Tryz.func43 rfl (Left.empty ?_)
  exact ⟨rfl, rfl⟩
 refine b43.go 200 rfl fun _ => ?_
 simp only [W, seval, EZ, h1]
 refine ag (Yw _) ?_
 rintro _ _ ⟨rfl, rfl⟩
 cases h2 : decide (t.names = u.names)
 ·refine af.go 200 ?_
  simp only [W, seval, EZ, h2]
  refine af.ret Tryz.func43 rfl (Left.empty ?_)
  exact ⟨rfl, rfl⟩
 refine af.go 200 ?_
 simp only [W, seval, EZ, h2]
 refine ag (fk _) ?_
 rintro _ _ ⟨rfl, rfl⟩
 cases h3 : w7 t.type u.type
 ·refine af.go 200 ?_
  simp only [W, seval, EZ, h3]
  refine af.ret Tryz.func43 rfl (Left.empty ?_)
  exact ⟨rfl, rfl⟩
 refine af.go 200 ?_
 simp only [W, seval, EZ, h3]
 refine ag (hle _ _) ?_
 rintro _ _ ⟨rfl, rfl⟩
 cases h4 : fP DC t.aG u.aG
 ·refine af.go 200 ?_
  simp only [W, seval, EZ, h4]
  refine af.ret Tryz.func43 rfl (Left.empty ?_)
  exact ⟨rfl, rfl⟩
 refine af.go 200 ?_
 simp only [W, seval, EZ, h4]
 refine ag (hex _ _) ?_
 rintro _ _ ⟨rfl, rfl⟩
 cases h5 : fP DC t.exprs u.exprs
 ·refine af.go 200 ?_
  simp only [W, seval, EZ, h5]
  refine af.ret Tryz.func43 rfl (Left.empty ?_)
  exact ⟨rfl, rfl⟩
 refine af.go 200 ?_
 simp only [W, seval, EZ, h5]
 refine ag (z8 _ _) ?_
 rintro _ _ ⟨rfl, rfl⟩
 cases h6 : fP nB t.body u.body
 ·refine af.go 200 ?_
  simp only [W, seval, EZ, h6]
  refine af.ret Tryz.func43 rfl (Left.empty ?_)
  exact ⟨rfl, rfl⟩
 refine af.go 200 ?_
 simp only [W, seval, EZ, h6]
 refine ag (G2 _ _) ?_
 rintro _ _ ⟨rfl, rfl⟩
 cases h7 : fP nB t.dO u.dO
 ·refine af.go 200 ?_
  simp only [W, seval, EZ, h7]
  refine af.ret Tryz.func43 rfl (Left.empty ?_)
  exact ⟨rfl, rfl⟩
 refine af.go 200 ?_
 simp only [W, seval, EZ, h7]
 refine ag (ME _ _) ?_
 rintro _ _ ⟨rfl, rfl⟩
 refine af.go 200 ?_
 simp only [W, seval, EZ]
 refine af.ret Tryz.func43 rfl (Left.empty ?_)
 exact ⟨rfl, rfl⟩
mutual
theorem tN : ∀ t : aF, Cu t
 | .mk k ns ty ls es b e cs => xK (.mk k ns ty ls es b e cs) (jW b) (jW e) (rI cs)
theorem jW : ∀ (ts : List aF), ∀ x ∈ ts, Cu x
 | [], _, h => absurd h List.not_mem_nil
 | y :: l, x, h => by
  rcases List.mem_cons.1 h with e | e
  ·rw [e]; exact tN y
  ·exact jW l x e
theorem rI : ∀ (cs : List cQ), ∀ c ∈ cs, ∀ x ∈ c.body, Cu x
 | [], _, h => absurd h List.not_mem_nil
 | .mk i b :: l, c, h => by
  rcases List.mem_cons.1 h with e | e
  ·rw [e]; exact jW b
  ·exact rI l c e
end
def UQ := by
 have c := aN Tryz.f12 (by conv => lhs; cbv)
 dsimp only [KK, fj, eR, eS, List.map_cons, List.map_nil, List.toList_toArray] at c
 exact c
theorem b12 : bK Tryz.prog 12 Tryz.f12 14 := ⟨Tryz.func12, by kernel_rfl⟩
def c14 := by
 have c := aN Tryz.f14 (by conv => lhs; cbv)
 dsimp only [KK, fj, eR, eS, List.map_cons, List.map_nil, List.toList_toArray] at c
 exact c
theorem b14 : bK Tryz.prog 14 Tryz.f14 9 := ⟨Tryz.func14, by kernel_rfl⟩
def UR := by
 have c := aN Tryz.f138 (by conv => lhs; cbv)
 dsimp only [KK, fj, eR, eS, List.map_cons, List.map_nil, List.toList_toArray] at c
 exact c
theorem Yx : bK Tryz.prog 138 Tryz.f138 7 := ⟨Tryz.func138, by kernel_rfl⟩
def US := by
 have c := aN Tryz.f136 (by conv => lhs; cbv)
 dsimp only [KK, fj, eR, eS, List.map_cons, List.map_nil, List.toList_toArray] at c
 exact c
theorem Yy : bK Tryz.prog 136 Tryz.f136 2 := ⟨Tryz.func136, by kernel_rfl⟩
def UT := by
 have c := aN Tryz.f113 (by conv => lhs; cbv)
 dsimp only [KK, fj, eR, eS, List.map_cons, List.map_nil, List.toList_toArray] at c
 exact c
theorem Yz : bK Tryz.prog 113 Tryz.f113 2 := ⟨Tryz.func113, by kernel_rfl⟩
def UU := by
 have c := aN Tryz.f194 (by conv => lhs; cbv)
 dsimp only [KK, fj, eR, eS, List.map_cons, List.map_nil, List.toList_toArray] at c
 exact c
theorem YB : bK Tryz.prog 194 Tryz.f194 2 := ⟨Tryz.func194, by kernel_rfl⟩
def UW := by
 have c := aN Tryz.f191 (by conv => lhs; cbv)
 dsimp only [KK, fj, eR, eS, List.map_cons, List.map_nil, List.toList_toArray] at c
 exact c
theorem YC : bK Tryz.prog 191 Tryz.f191 2 := ⟨Tryz.func191, by kernel_rfl⟩
def RJ := by
 have c := aN Tryz.f171 (by conv => lhs; cbv)
 dsimp only [KK, fj, eR, eS, List.map_cons, List.map_nil, List.toList_toArray] at c
 exact c
theorem RK : bK Tryz.prog 171 Tryz.f171 19 := ⟨Tryz.func171, by kernel_rfl⟩
def JG := by
 have c := aN Tryz.f68 (by conv => lhs; cbv)
 dsimp only [KK, fj, eR, eS, List.map_cons, List.map_nil, List.toList_toArray] at c
 exact c
theorem b68 : bK Tryz.prog 68 Tryz.f68 30 := ⟨Tryz.func68, by kernel_rfl⟩
def c64 := by
 have c := aN Tryz.f64 (by conv => lhs; cbv)
 dsimp only [KK, fj, eR, eS, List.map_cons, List.map_nil, List.toList_toArray] at c
 exact c
theorem b64 : bK Tryz.prog 64 Tryz.f64 37 := ⟨Tryz.func64, by kernel_rfl⟩
mutual
theorem Cw : ∀ t u : az, w7 t u = tG t u
 | .mk k n es, .mk k' n' RG => by
  rw [w7, tG, yD es]
  have e : (n == n') = decide (n = n') := by rw [Bool.eq_iff_iff]; simp
  show _ = (decide (k = k') && (n == n') && _)
  rw [e, Bool.and_assoc]
  rfl
theorem yD : ∀ l m : List az, qv l m = gq l m
 | [], [] => by unfold qv gq; rfl
 | [], _ :: _ => by unfold qv gq; rfl
 | _ :: _, [] => by unfold qv gq; rfl
 | t :: l, u :: m => by
  unfold qv gq
  rw [Cw t u, yD l m]
end
theorem Cy (t u : az) (S : Mem) : aD Tryz.prog av 37 [aT t, aT u] S (aB (.d (.bool (tG t u))) S) := by
 rw [← Cw]
 exact gW t u S
theorem cH (B : List (List V)) (T : List (Nat × Nat)) : aD Tryz.prog av 136 [] ⟨B, T⟩ (aB (aT bO) ⟨B, T⟩) := by
 obtain ⟨N, hn⟩ : ∃ N, B.length = N := ⟨_, rfl⟩
 refine Yy.go 60 rfl fun _ => ?_
 simp only [W, seval, US, hn]
 refine Ol (v := ?_) Tryz.func136 (by rfl) ?_ ?_
 rotate_left 1
 ·try simp only [W, seval, US, hn]
  exact rfl
 refine Left.box ?_
 exact ⟨rfl, rfl⟩
theorem eY (B : List (List V)) (T : List (Nat × Nat)) : aD Tryz.prog av 113 [] ⟨B, T⟩ (aB (aT bg) ⟨B, T⟩) := by
 obtain ⟨N, hn⟩ : ∃ N, B.length = N := ⟨_, rfl⟩
 refine Yz.go 60 rfl fun _ => ?_
 simp only [W, seval, UT, hn]
 refine Ol (v := ?_) Tryz.func113 (by rfl) ?_ ?_
 rotate_left 1
 ·try simp only [W, seval, UT, hn]
  exact rfl
 refine Left.box ?_
 exact ⟨rfl, rfl⟩
theorem rJ (B : List (List V)) (T : List (Nat × Nat)) : aD Tryz.prog av 194 [] ⟨B, T⟩ (aB (aT bS) ⟨B, T⟩) := by
 obtain ⟨N, hn⟩ : ∃ N, B.length = N := ⟨_, rfl⟩
 refine YB.go 60 rfl fun _ => ?_
 simp only [W, seval, UU, hn]
 refine Ol (v := ?_) Tryz.func194 (by rfl) ?_ ?_
 rotate_left 1
 ·try simp only [W, seval, UU, hn]
  exact rfl
 refine Left.box ?_
 exact ⟨rfl, rfl⟩
theorem IT (B : List (List V)) (T : List (Nat × Nat)) : aD Tryz.prog av 191 [] ⟨B, T⟩ (aB (aT RE) ⟨B, T⟩) := by
 obtain ⟨N, hn⟩ : ∃ N, B.length = N := ⟨_, rfl⟩
 refine YC.go 60 rfl fun _ => ?_
 simp only [W, seval, UW, hn]
 refine Ol (v := ?_) Tryz.func191 (by rfl) ?_ ?_
 rotate_left 1
 ·try simp only [W, seval, UW, hn]
  exact rfl
 refine Left.box ?_
 exact ⟨rfl, rfl⟩
theorem rK (k : Int) (S : Mem) : aD Tryz.prog av 12 [.d (.int .i64 k)] S (aB (.d (.int .u64 (iD k))) S) := by
 obtain ⟨B, T⟩ := S
 refine b12.go 160 rfl fun _ => ?_
 simp only [W, seval, UQ]
 repeat' ((first | refine aZ (fun h => ?_) (fun h => ?_) | refine aS (fun h => ?_) (fun h => ?_)) <;> simp only [W, seval, UQ, h])
 all_goals
  refine af.ret Tryz.func12 rfl (Left.none ?_)
  unfold iD
  (try clear ih)
  (try simp only [jc] at *)
  simp only [jb, seval, aB] <;> simp [*]
theorem IU (k : Int) (S : Mem) : aD Tryz.prog av 14 [.d (.int .i64 k)] S (aB (.d (.bool (decide (k = 3 ∨ k = 4)))) S) := by
 obtain ⟨B, T⟩ := S
 refine b14.go 160 rfl fun _ => ?_
 simp only [W, seval, c14]
 repeat' ((first | refine aZ (fun h => ?_) (fun h => ?_) | refine aS (fun h => ?_) (fun h => ?_)) <;> simp only [W, seval, c14, h])
 all_goals
  refine af.ret Tryz.func14 rfl (Left.none ?_)
  (try clear ih)
  (try simp only [jc] at *)
  simp only [jb, seval, aB] <;> simp [*]
theorem eZ (t : az) (B : List (List V)) (T : List (Nat × Nat)) : aD Tryz.prog av 138 [aT t] ⟨B, T⟩ (aB (.d (.bool (jV t.kind))) ⟨B, T⟩) := by
 obtain ⟨N, hn⟩ : ∃ N, B.length = N := ⟨_, rfl⟩
 unfold aT
 refine Yx.go 60 rfl fun _ => ?_
 simp only [W, seval, UR, hn]
 refine ag (rK t.kind _) ?_
 rintro _ _ ⟨rfl, rfl⟩
 refine af.go 60 ?_
 simp only [W, seval, UR]
 refine af.ret Tryz.func138 rfl (Left.box ?_)
 rw [LA]
 exact ⟨rfl, rfl⟩
def jL := by
 have c := aN Tryz.f172 (by conv => lhs; cbv)
 dsimp only [KK, fj, eR, eS, List.map_cons, List.map_nil, List.toList_toArray] at c
 exact c
theorem UX : bK Tryz.prog 172 Tryz.f172 52 := ⟨Tryz.func172, by kernel_rfl⟩
def Ox := by
 have c := aN Tryz.f112 (by conv => lhs; cbv)
 dsimp only [KK, fj, eR, eS, List.map_cons, List.map_nil, List.toList_toArray] at c
 exact c
theorem YD : bK Tryz.prog 112 Tryz.f112 22 := ⟨Tryz.func112, by kernel_rfl⟩
theorem cI {X A C : List V} {x : aj} {kv : V} {a : Nat} (hX : X = A ++ aR x kv ++ C) (ha : A.length = a) :
 X[a]? = some (.d (.int .i64 x.kind)) ∧ X[a + 1]? = some (.d (.str x.text)) ∧ X[a + 2]? = some (.d (.int .u64 x.int)) ∧ X[a + 6]? = some (.d (.sl (gu x.names))) ∧ X[a + 7]? = some kv ∧ a + 8 ≤ X.length ∧ (X.drop a).take 8 = aR x kv ∧ a + 3 + 3 ≤ X.length ∧ (X.drop (a + 3)).take 3 = jt x.type := by
 have e : X = A ++ (aR x kv ++ C) := by rw [hX, List.append_assoc]
 have g : ∀ q, X[a + q]? = (aR x kv ++ C)[q]? := fun q => by rw [e, List.getElem?_append_right (by omega)]; congr 1; omega
 have d : ∀ q, X.drop (a + q) = (aR x kv ++ C).drop q := fun q => by rw [e, List.drop_append, List.drop_of_length_le (by omega), List.nil_append]; congr 1; omega
 have hl : X.length = a + 8 + C.length := by rw [e, List.length_append, List.length_append, ha]; simp [aR]; omega
 refine ⟨g 0, g 1, g 2, g 6, g 7, by omega, ?_, by omega, ?_⟩
 ·have := d 0
  rw [Nat.add_zero] at this
  rw [this]
  rfl
 ·rw [d 3]
  rfl
theorem Gu {X A C : List V} {x : aj} {kv : V} {a : Nat} (hX : X = A ++ aR x kv ++ C) (ha : A.length = a) (t : az) : X.take (a + 3) ++ (jt t ++ X.drop (a + 3 + 3)) = A ++ aR (setType x t) kv ++ C := by
 have e : X = A ++ (aR x kv ++ C) := by rw [hX, List.append_assoc]
 rw [e, List.take_append, List.drop_append, List.drop_of_length_le (by omega), List.take_of_length_le (by omega), List.nil_append, List.append_assoc, List.append_assoc]
 rw [show a + 3 - A.length = 3 by omega, show a + 3 + 3 - A.length = 6 by omega]
 cases x
 rfl
theorem fN.first {B : List (List V)} {l : List aj} {lo hi : Nat} {v : V} {y : aj} {ks : List aj} (h : fN B l lo hi v) (hl : l = y :: ks) : ∃ j cap Y kv C, v = .bx j l.length cap ∧ B[j]? = some Y ∧ Y = [] ++ aR y kv ++ C := by
 subst hl
 rcases h with ⟨h0, _⟩ | ⟨_, j, cap, Y, h1, _, _, h4, h5⟩
 ·cases h0
 ·unfold jB at h5
  obtain ⟨r, X', m, e1, e2, e3, e4, e5, e6⟩ := h5
  obtain ⟨kv, rfl, _⟩ := iH.1 e5
  exact ⟨j, cap, Y, kv, X', h1, h4, by rw [e1]; rfl⟩
theorem Oy (x : aj) : gN x = (decide (x.kind = 2) || decide (x.kind = 5) && (match x.kids with
 | y :: _ => decide (y.kind = 2)
 | [] => false)) := by cases x; rfl
set_option maxHeartbeats 2000000 in
theorem E0 {x : aj} (hx : x.kind = 5 → x.kids ≠ []) {B : List (List V)} {lo hi : Nat} {kv : V} (ho : fN B x.kids lo hi kv) (T : List (Nat × Nat)) : aD Tryz.prog av 171 [.agg (aR x kv)] ⟨B, T⟩ (aB (.d (.bool (gN x))) ⟨B, T⟩) := by
 obtain ⟨N, hn⟩ : ∃ N, B.length = N := ⟨_, rfl⟩
 have hl := Oy x
 unfold aR
 by_cases h2 : x.kind = 2
 ·have e2 := decide_eq_true h2
  refine RK.go 60 rfl fun bh => ?_
  simp only [eI] at bh
  simp only [W, seval, RJ, hn, e2]
  refine af.ret Tryz.func171 rfl (Left.box ?_)
  rw [hl, e2]
  exact ⟨rfl, rfl⟩
 have e2 := decide_eq_false h2
 by_cases h5 : x.kind = 5
 case neg =>
  have e5 := decide_eq_false h5
  refine RK.go 60 rfl fun bh => ?_
  simp only [eI] at bh
  simp only [W, seval, RJ, hn, e2, e5]
  refine af.ret Tryz.func171 rfl (Left.box ?_)
  rw [hl, e2, e5]
  exact ⟨rfl, rfl⟩
 have e5 := decide_eq_true h5
 cases hk : x.kids with
 | nil => exact absurd hk (hx h5)
 | cons y ks =>
  obtain ⟨j, cap, Y, mc, C, rfl, hY, hYe⟩ := ho.first hk
  obtain ⟨y0, _⟩ := cI hYe rfl
  have hj : j < N := by have := (List.getElem?_eq_some_iff.1 hY).1; omega
  have LF : (0 : Int) < (x.kids.length : Int) := by rw [hk]; simp
  have y0 : Y[0]? = some (.d (.int .i64 y.kind)) := y0
  rw [hk] at hl
  refine RK.go 60 rfl fun bh => ?_
  simp only [eI] at bh
  simp only [W, seval, RJ, ie, hn, e2, e5, hj, hY, y0, LF]
  refine af.ret Tryz.func171 rfl (Left.box ?_)
  rw [hl, e2, e5]
  exact ⟨rfl, rfl⟩
def kJ (j lo hi : Nat) (A C : List V) (kv : V) (B B' : List (List V)) (r : Option aj) : Prop := cm j lo hi B.length B B' ∧ B'.length = B.length ∧ ∀ y, r = some y → B'[j]? = some (A ++ aR y kv ++ C) ∧ fN B' y.kids lo hi kv
def UY (r : Option (aj × az)) (v : V) : Prop :=
 match r with
 | some (_, t) => v = .bZ [aT t, .d (.bool true)]
 | none => ∃ t, v = .bZ [aT t, .d (.bool false)]
def lK (r : Option (aj × az)) (j lo hi : Nat) (A C : List V) (kv : V) (B : List (List V)) (T : List (Nat × Nat)) (v : V) (S' : Mem) : Prop :=
 ∃ B', S' = ⟨B', T⟩ ∧ kJ j lo hi A C kv B B' (r.map Prod.fst) ∧ UY r v
def pH (r : Option aj) (j lo hi : Nat) (A C : List V) (kv : V) (B : List (List V)) (T : List (Nat × Nat)) (v : V) (S' : Mem) : Prop :=
 ∃ B', S' = ⟨B', T⟩ ∧ kJ j lo hi A C kv B B' r ∧ v = .d (.bool r.isSome)
theorem bU.done {B B1 : List (List V)} {n c s f w : Nat} {E : bG} {res : List az} {j lo hi : Nat} {A C : List V} {kv : V} {x y : aj} (h : bU B n c s f w E res j lo hi A C kv x) (hd : kJ j lo hi A C kv B B1 (some y)) : bU B1 n c s f w E res j lo hi A C kv y :=
 h.MJ (hd.1.less h.nl) (hd.2.2 y rfl).1 (hd.2.2 y rfl).2
theorem fB {B1 : List (List V)} {m i : Nat} (h : i < m) : (B1.take m)[i]? = B1[i]? := by rw [List.getElem?_take, if_pos h]
theorem bU.fin {B B0 B1 : List (List V)} {n c s f w : Nat} {E : bG} {res : List az} {j lo hi : Nat} {A C : List V} {kv : V} {y : aj} {r : Option aj} (h : bU B n c s f w E res j lo hi A C kv y) (he : cm j lo hi B0.length B0 B1) (hn : n ≤ B0.length) (hb : ∀ i, i < n → B1[i]? = B[i]?) (hr : ∀ z, r = some z → z = y) : kJ j lo hi A C kv B0 (B1.take B0.length) r := by
 refine ⟨he.cut, by have := he.1; rw [List.length_take]; omega, fun z hz => ?_⟩
 obtain rfl := hr z hz
 obtain ⟨n1, n2, n3, n4, n5, n6⟩ := h.nb
 exact ⟨by rw [List.getElem?_take, if_pos (by omega), hb _ n5]; exact h.row, h.own.frame fun i _ hi => by rw [List.getElem?_take, if_pos (by omega)]; exact hb i (by omega)⟩
theorem kJ.none {j lo hi : Nat} {A C : List V} {kv : V} {B0 B1 : List (List V)} {r : Option aj} (he : cm j lo hi B0.length B0 B1) (hr : r = Option.none) : kJ j lo hi A C kv B0 (B1.take B0.length) r := ⟨he.cut, by have := he.1; rw [List.length_take]; omega, fun z hz => by rw [hr] at hz; cases hz⟩
theorem bU.pX {B0 M B1 : List (List V)} {n c s f w : Nat} {E : bG} {res : List az} {j lo hi : Nat} {A C : List V} {kv : V} {x : aj} (h : bU B0 n c s f w E res j lo hi A C kv x) (he : cm j lo hi M.length M B1) {i : Nat} (hi : n ≤ i) (hl : i < M.length) : B1[i]? = M[i]? := by
 obtain ⟨n1, n2, n3, n4, n5, n6⟩ := h.nb
 exact he.2.1 i hl ⟨by omega, by omega⟩
def dI (E : bG) (res : List az) (x : aj) : Prop := ∀ (want : az) (n c s f w : Nat) (B : List (List V)) (T : List (Nat × Nat)) (j lo hi : Nat) (A C : List V) (kv : V), bU B n c s f w E res j lo hi A C kv x →
 aD Tryz.prog av 135 [.ptr c 0, .ptr j A.length, aT want] ⟨B, T⟩ (lK (aC E x want) j lo hi A C kv B T)
theorem mR {r : Option (aj × az)} {v : V} (h : UY r v) : ∃ t b, v = .bZ [aT t, .d (.bool b)] ∧ (b = true → ∃ y, r = some (y, t)) ∧ (b = false → r = none) := by
 cases r with
 | none =>
  obtain ⟨t, rfl⟩ := h
  exact ⟨t, false, rfl, (fun h => by cases h), fun _ => rfl⟩
 | some p =>
  obtain ⟨y, t⟩ := p
  exact ⟨t, true, h, fun _ => ⟨y, rfl⟩, fun h => by cases h⟩
section
variable {E : bG} {res : List az} {n c s f w : Nat} {B : List (List V)} {T : List (Nat × Nat)} {j lo hi : Nat} {A C : List V} {kv : V}
set_option maxHeartbeats 4000000 in
theorem iJ {x : aj} (hx : dI E res x) (want : az) (h : bU B n c s f w E res j lo hi A C kv x) : aD Tryz.prog av 112 [.ptr c 0, .ptr j A.length, aT want] ⟨B, T⟩ (pH (aV (aC E x want) want) j lo hi A C kv B T) := by
 obtain ⟨N, hn⟩ : ∃ N, B.length = N := ⟨_, rfl⟩
 have ht := fun J => hx want n c s f w (B ++ J) T j lo hi A C kv h.more
 unfold aT at ht ⊢
 refine YD.go 160 rfl fun bh => ?_
 simp only [eI] at bh
 simp only [W, seval, Ox, hn]
 refine aQ (ht _) ?_
 rintro v _ ⟨B1, rfl, hd, hv⟩
 obtain ⟨t, b, rfl, lD, iM⟩ := mR hv
 have gy := h.nl
 have aU := hd.2.1
 rw [List.length_append, hn] at aU
 have f0 := h.pX hd.1 (i := N) (by omega) (by simp [hn])
 rw [cy hn] at f0
 simp only [List.getElem?_cons_zero] at f0
 have e1 := cm.new.step hd.1
 have dm : N < N + 1 := by omega
 cases b
 ·refine af.go 160 ?_
  simp only [W, seval, Ox, aU, f0, dm, aT]
  refine af.ret Tryz.func112 rfl (an e1.app ?_)
  have hr := iM rfl
  exact ⟨_, rfl, .none e1.app (by rw [hr]; rfl), by rw [hr]; rfl⟩
 ·refine af.go 160 ?_
  simp only [W, seval, Ox, aU, f0, dm, aT]
  refine ag (Cy t want _) ?_
  rintro _ _ ⟨rfl, rfl⟩
  refine af.go 160 ?_
  simp only [W, seval, Ox]
  refine af.ret Tryz.func112 rfl (an e1.app ?_)
  obtain ⟨y, hr⟩ := lD rfl
  rw [hr] at hd ⊢
  unfold aV
  dsimp only
  cases tG t want
  ·exact ⟨_, rfl, .none e1.app rfl, rfl⟩
  ·exact ⟨_, rfl, (h.more.done hd).fin e1.app (by omega) (fun i hi => ai (by omega)) (fun z hz => (Option.some.inj hz).symm), rfl⟩
end
theorem E1 (x : aj) (t : az) : (setType x t).kids = x.kids := by cases x; rfl
theorem bU.ty {B : List (List V)} {n c s f w : Nat} {E : bG} {res : List az} {j lo hi : Nat} {A C : List V} {kv : V} {x : aj} (h : bU B n c s f w E res j lo hi A C kv x) (t : az) : kJ j lo hi A C kv B (B.set j (A ++ aR (setType x t) kv ++ C)) (some (setType x t)) := by
 obtain ⟨n1, n2, n3, n4, n5, n6⟩ := h.nb
 have hl := h.nl
 have hj : j < B.length := by omega
 have SV := h.jo
 refine ⟨⟨by rw [List.length_set]; exact Nat.le_refl _, fun i _ ho => List.getElem?_set_ne (fun e => ho.1 e.symm), fun i _ Y hY v hv => ?_⟩, List.length_set, fun y hy => ?_⟩
 ·by_cases e : i = j
  ·subst e
   rw [List.getElem?_set_self hj] at hY
   obtain rfl := Option.some.inj hY
   exact (sQ v hv).imp (fun hm => ⟨_, h.row, hm⟩) id
  ·rw [List.getElem?_set_ne fun h => e h.symm] at hY
   exact .inl ⟨Y, hY, hv⟩
 ·obtain rfl := Option.some.inj hy
  refine ⟨List.getElem?_set_self hj, ?_⟩
  rw [E1]
  exact h.own.frame fun i h1 h2 => List.getElem?_set_ne (by omega)
theorem UZ {k : Int} (h : k = 3 ∨ k = 4) : IntKind.u64.wrap (iD k + 1) = iD k + 1 := by
 rcases h with rfl | rfl <;> rfl
section
variable {E : bG} {res : List az} {n c s f w : Nat} {B : List (List V)} {T : List (Nat × Nat)} {j lo hi : Nat} {A C : List V} {kv : V}
set_option maxHeartbeats 4000000 in
theorem Cz {x : aj} (hx : x.kind = 5 → x.kids ≠ []) (want : az) (h : bU B n c s f w E res j lo hi A C kv x) : aD Tryz.prog av 172 [.ptr j A.length, aT want] ⟨B, T⟩ (lK (nY x want) j lo hi A C kv B T) := by
 obtain ⟨N, hn⟩ : ∃ N, B.length = N := ⟨_, rfl⟩
 obtain ⟨a, ha⟩ : ∃ a, A.length = a := ⟨_, rfl⟩
 obtain ⟨X, hX⟩ : ∃ X, A ++ aR x kv ++ C = X := ⟨_, rfl⟩
 obtain ⟨x0, x1, x2, x6, x7, x8, x9, j9, lM⟩ := cI hX.symm ha
 have aA := h.row
 rw [hX] at aA
 have hj : j < N := by have := (List.getElem?_eq_some_iff.1 aA).1; omega
 have gy := h.nl
 have en : ∀ J, cm j lo hi B.length B (B ++ J) := fun _ => cm.new
 rw [ha]
 unfold aT
 by_cases h5 : x.kind = 5
 ·have e5 := decide_eq_true h5
  cases hk : x.kids with
  | nil => exact absurd hk (hx h5)
  | cons y ks =>
   obtain ⟨j1, cap, eC, dM, A1, C1, mc, rfl, a1, ⟨a2, _⟩, k1, k2, k3⟩ := h.pV (k := 0) (y := y) (by rw [hk]; rfl)
   obtain ⟨Y, hY⟩ : ∃ Y, A1 ++ aR y mc ++ C1 = Y := ⟨_, rfl⟩
   have a1 : A1.length = 0 := by omega
   obtain ⟨y0, y1, y2, y6, y7, y8, y9, SZ, y11⟩ := cI hY.symm a1
   have lu := k1.row
   rw [hY] at lu
   have qc : j1 < N := by omega
   rw [Nat.zero_add] at y2 SZ
   have LF : (0 : Int) < (x.kids.length : Int) := by rw [hk]; simp
   have ku := Gu hY.symm a1 want
   simp only [Nat.zero_add, Nat.reduceAdd, jt, List.cons_append, List.nil_append] at ku
   have hp : nY x want = if (want.kind = 3 ∨ want.kind = 4) ∧ y.int ≤ iD want.kind + 1 then some (aP x (setType y want :: ks), want) else none := by
    unfold nY; rw [if_pos h5, hk]
   rw [hp]
   have hd := k1.ty want
   obtain ⟨Z, hZ⟩ : ∃ Z, A1 ++ aR (setType y want) mc ++ C1 = Z := ⟨_, rfl⟩
   rw [hZ] at ku hd
   refine UX.go 160 rfl fun bh => ?_
   simp only [eI] at bh
   simp only [W, seval, jL, hn]
   refine ag (rK want.kind _) ?_
   rintro _ _ ⟨rfl, rfl⟩
   refine af.go 160 ?_
   simp only [W, seval, jL, ie, hn, hj, aA, x0, x7, e5, qc, lu, LF]
   refine ag (IU want.kind _) ?_
   rintro _ _ ⟨rfl, rfl⟩
   by_cases hs : want.kind = 3 ∨ want.kind = 4
   ·have es := decide_eq_true hs
    have hw := UZ hs
    by_cases jD : y.int ≤ iD want.kind + 1
    ·have ei : decide (iD want.kind + 1 < y.int) = false := decide_eq_false (by omega)
     refine af.go 160 ?_
     simp only [W, seval, jL, hn, qc, lu, y2, y8, SZ, es, hw, ei, Bool.not_true, ku, jt]
     have e1 := (cm.refl j lo hi B.length B).trans (k2 _ _ hd.1)
     refine ct (v := ?_) (u := ?_) Tryz.func172 (by rfl) ?_ ?_ ?_
     rotate_left 2
     ·try simp only [W, seval, jL, hn, qc]
      exact rfl
     ·try simp only [W, seval, jL, hn, qc]
      exact rfl
     refine an e1.app ?_
     rw [if_pos ⟨hs, jD⟩]
     refine ⟨_, rfl, ?_, rfl⟩
     have k4 := k3 _ _ (hd.1.less gy) (hd.2.2 _ rfl).1 (hd.2.2 _ rfl).2
     exact k4.fin e1.app gy (fun i hi => ai (by rw [List.length_set]; omega)) (fun z hz => by rw [← Option.some.inj hz, hk]; rfl)
    ·have ei : decide (iD want.kind + 1 < y.int) = true := decide_eq_true (by omega)
     refine af.go 160 ?_
     simp only [W, seval, jL, hn, qc, lu, y2, y8, SZ, es, hw, ei, Bool.not_true]
     refine ag (cH _ _) ?_
     rintro _ _ ⟨rfl, rfl⟩
     refine af.go 160 ?_
     simp only [W, seval, jL, hn, aT]
     refine ct (v := ?_) (u := ?_) Tryz.func172 (by rfl) ?_ ?_ ?_
     rotate_left 2
     ·try simp only [W, seval, jL, hn]
      exact rfl
     ·try simp only [W, seval, jL, hn]
      exact rfl
     refine an (en _) ?_
     rw [if_neg fun h => jD h.2]
     exact ⟨_, rfl, .none (en _) rfl, bO, rfl⟩
   ·have es := decide_eq_false hs
    refine af.go 160 ?_
    simp only [W, seval, jL, hn, es, Bool.not_false]
    refine ag (cH _ _) ?_
    rintro _ _ ⟨rfl, rfl⟩
    refine af.go 160 ?_
    simp only [W, seval, jL, hn, aT]
    refine ct (v := ?_) (u := ?_) Tryz.func172 (by rfl) ?_ ?_ ?_
    rotate_left 2
    ·try simp only [W, seval, jL, hn]
     exact rfl
    ·try simp only [W, seval, jL, hn]
     exact rfl
    refine an (en _) ?_
    rw [if_neg fun h => hs h.1]
    exact ⟨_, rfl, .none (en _) rfl, bO, rfl⟩
 ·have e5 := decide_eq_false h5
  have hp : nY x want = if iD want.kind = 0 ∨ iD want.kind < x.int then none else some (setType x want, want) := by
   unfold nY; rw [if_neg h5]
  rw [hp]
  have ku := Gu hX.symm ha want
  simp only [jt, List.cons_append, List.nil_append] at ku
  have hd := h.ty want
  obtain ⟨Z, hZ⟩ : ∃ Z, A ++ aR (setType x want) kv ++ C = Z := ⟨_, rfl⟩
  rw [hZ] at ku hd
  refine UX.go 160 rfl fun bh => ?_
  simp only [eI] at bh
  simp only [W, seval, jL, hn]
  refine ag (rK want.kind _) ?_
  rintro _ _ ⟨rfl, rfl⟩
  by_cases h0 : iD want.kind = 0
  ·have e0 := decide_eq_true h0
   refine af.go 160 ?_
   simp only [W, seval, jL, hn, hj, aA, x0, e5, e0]
   refine ag (cH _ _) ?_
   rintro _ _ ⟨rfl, rfl⟩
   refine af.go 160 ?_
   simp only [W, seval, jL, hn, aT]
   refine ct (v := ?_) (u := ?_) Tryz.func172 (by rfl) ?_ ?_ ?_
   rotate_left 2
   ·try simp only [W, seval, jL, hn]
    exact rfl
   ·try simp only [W, seval, jL, hn]
    exact rfl
   refine an (en _) ?_
   rw [if_pos (.inl h0)]
   exact ⟨_, rfl, .none (en _) rfl, bO, rfl⟩
  have e0 := decide_eq_false h0
  by_cases jD : iD want.kind < x.int
  ·have ei := decide_eq_true jD
   refine af.go 160 ?_
   simp only [W, seval, jL, hn, hj, aA, x0, x2, e5, e0, ei]
   refine ag (cH _ _) ?_
   rintro _ _ ⟨rfl, rfl⟩
   refine af.go 160 ?_
   simp only [W, seval, jL, hn, aT]
   refine ct (v := ?_) (u := ?_) Tryz.func172 (by rfl) ?_ ?_ ?_
   rotate_left 2
   ·try simp only [W, seval, jL, hn]
    exact rfl
   ·try simp only [W, seval, jL, hn]
    exact rfl
   refine an (en _) ?_
   rw [if_pos (.inr jD)]
   exact ⟨_, rfl, .none (en _) rfl, bO, rfl⟩
  ·have ei := decide_eq_false jD
   refine af.go 160 ?_
   simp only [W, seval, jL, hn, hj, aA, x0, x2, j9, e5, e0, ei, ku, jt]
   have e1 := (cm.refl j lo hi B.length B).trans hd.1
   refine ct (v := ?_) (u := ?_) Tryz.func172 (by rfl) ?_ ?_ ?_
   rotate_left 2
   ·try simp only [W, seval, jL, hn, hj]
    exact rfl
   ·try simp only [W, seval, jL, hn, hj]
    exact rfl
   refine an e1.app ?_
   rw [if_neg fun h => h.elim h0 jD]
   refine ⟨_, rfl, ?_, rfl⟩
   exact (h.done hd).fin e1.app gy (fun i hi => ai (by rw [List.length_set]; omega)) (fun z hz => (Option.some.inj hz).symm)
end
set_option maxHeartbeats 1000000 in
theorem nr {σ : Type} (g : FuncId) (first caps : List V) (mem : σ → Mem) (f : bI → σ → Bool × σ) (hm : ∀ s s', (mem s).boxes.length = (mem s').boxes.length ∧ (mem s).aL.length = (mem s').aL.length) (l : List bI) (hl : l.length ≤ 9223372036854775807) (s0 : σ) (hg : Good Tryz.prog av g first caps AS mem f l s0) :
 aD Tryz.prog av 106 [.d (.sl (l.map gI)), .func g first caps] (mem s0) (aB (.d (.int .i64 (bk f l 0 s0).1)) (mem (bk f l 0 s0).2)) := by
 refine aD.body Tryz.func106 rfl (by kernel_rfl) ?_
 refine af.go 100 ?_
 simp only [Tryz.f106, WO, seval]
 refine af.cJ (fun p : Nat × σ => (eK 19 [(0, .d (.sl (l.map gI))), (1, .func g first caps), (6, .d (.sl (l.map gI))), (7, .d (.int .i64 l.length)), (8, .d (.int .i64 p.1))], mem p.2)) (fun p => p.1 ≤ l.length ∧ bk f l 0 s0 = bk f (l.drop p.1) p.1 p.2 ∧ Good Tryz.prog av g first caps AS mem f (l.drop p.1) p.2) (fun p => l.length - p.1) (0, s0) ⟨by omega, rfl, hg⟩ ?_ rfl ?_
 ·simp only [eK, List.replicate_succ, List.replicate_zero, List.foldl_cons, List.foldl_nil, List.set_cons_zero, List.set_cons_succ, gC, eq_self, or_true, true_or, and_self, Int.natCast_add, Int.natCast_one, Int.natCast_zero]
 rintro ⟨i, s⟩ ⟨h1, h2, h3⟩ ih
 dsimp only at h1 h2 h3 ih ⊢
 by_cases au : i < l.length
 ·have hw := aI ((i : Int) + 1) (by omega)
  have lC := List.getElem?_eq_getElem au
  rw [bW au] at h2 h3
  obtain ⟨h4, h5⟩ := h3
  have aH : decide ((i : Int) < (l.length : Int)) = true := decide_eq_true (by omega)
  refine af.go 100 ?_
  simp only [WO, seval, List.getElem?_map, lC, aH, hw, qq]
  refine aQ h4 ?_
  rintro _ _ ⟨rfl, rfl⟩
  refine af.go 100 ?_
  simp only [WO, seval, hw]
  refine aS (fun h => ?_) (fun h => ?_)
  ·simp only [WO, seval, h]
   refine af.fits fun hf => ?_
   refine af.ret Tryz.func106 rfl (Left.fits hf (hm _ _).1 (hm _ _).2 ?_)
   have e : bk f (l[i] :: l.drop (i + 1)) (i : Int) s = ((i : Int), (f l[i] s).2) := by simp [bk, h]
   rw [h2, e]
   exact ⟨rfl, rfl⟩
  ·simp only [WO, seval, h, hw]
   have e : bk f (l[i] :: l.drop (i + 1)) (i : Int) s = bk f (l.drop (i + 1)) ((i + 1 : Nat) : Int) (f l[i] s).2 := by simp [bk, h]
   refine ih (i + 1, (f l[i] s).2) ⟨au, h2.trans e, h5 h⟩ (by simp only; omega) _ _ ?_ rfl
   simp only [eK, List.replicate_succ, List.replicate_zero, List.foldl_cons, List.foldl_nil, List.set_cons_zero, List.set_cons_succ, gC, eq_self, or_true, true_or, and_self, Int.natCast_add, Int.natCast_one, Int.natCast_zero]
 ·have aH : decide ((i : Int) < (l.length : Int)) = false := decide_eq_false (by omega)
  refine af.go 100 ?_
  simp only [WO, seval, aH]
  refine af.fits fun hf => ?_
  refine af.ret Tryz.func106 rfl (Left.fits hf (hm _ _).1 (hm _ _).2 ?_)
  rw [h2, List.drop_eq_nil_of_le (by omega)]
  exact ⟨rfl, rfl⟩
theorem kK {σ : Type} (g : FuncId) (first caps : List V) (mem : σ → Mem) (f : bI → σ → Bool × σ) (hm : ∀ s s', (mem s).boxes.length = (mem s').boxes.length ∧ (mem s).aL.length = (mem s').aL.length) (l : List bI) (hl : l.length ≤ 9223372036854775807) (s0 : σ) (hg : Good Tryz.prog av g first caps AS mem f l s0) :
 aD Tryz.prog av 66 [.d (.sl (l.map gI)), .func g first caps] (mem s0) (aB (.d (.bool (lI f l s0).1)) (mem (lI f l s0).2)) := by
 obtain ⟨e1, e2⟩ := jd f l 0 s0 (Int.le_refl 0)
 refine aD.body Tryz.func66 rfl (by kernel_rfl) ?_
 refine af.go 100 ?_
 simp only [Tryz.f66, WO, seval]
 refine ag (nr g first caps mem f hm l hl s0 hg) ?_
 rintro _ _ ⟨rfl, rfl⟩
 refine af.go 100 ?_
 simp only [WO, seval, e1]
 refine af.fits fun hf => ?_
 refine af.ret Tryz.func66 rfl (Left.fits hf (hm _ _).1 (hm _ _).2 ?_)
 rw [e2]
 exact ⟨rfl, rfl⟩
def WD (B : List (List V)) (c : Nat) (E : bG) (res : List az) : Prop := c < B.length ∧ ∃ vv, B[c]? = some (RF E.su E.fu vv res) ∧ iF B c vv E.vs
theorem WD.more {B J : List (List V)} {c : Nat} {E : bG} {res : List az} (h : WD B c E res) : WD (B ++ J) c E res := by
 obtain ⟨h1, vv, h2, h3⟩ := h
 exact ⟨by rw [List.length_append]; omega, vv, by rw [ai h1]; exact h2, h3.more⟩
def Oz (r : Option (aj × az)) (v : V) : Prop :=
 match r with
 | some (y, t) => v = .bZ [ry y, aT t, .d (.bool true)]
 | none => ∃ y t, v = .bZ [ry y, aT t, .d (.bool false)]
def wnR (r : Option aj) (v : V) : Prop :=
 match r with
 | some y => v = .bZ [ry y, .d (.bool true)]
 | none => ∃ y, v = .bZ [ry y, .d (.bool false)]
def alR (r : Option (List aj)) (v : V) : Prop :=
 match r with
 | some l => v = .bZ [.d (.sl (l.map eH)), .d (.bool true)]
 | none => v = .bZ [.d (.sl []), .d (.bool false)]
theorem Oz.ne (r : Option (aj × az)) : ∃ v, Oz r v := by
 cases r with
 | none => exact ⟨_, .mk 0 [] 0 bO [] [], bO, rfl⟩
 | some p => exact ⟨_, rfl⟩
theorem wnR.ne (r : Option aj) : ∃ v, wnR r v := by
 cases r with
 | none => exact ⟨_, .mk 0 [] 0 bO [] [], rfl⟩
 | some p => exact ⟨_, rfl⟩
theorem alR.ne (r : Option (List aj)) : ∃ v, alR r v := by
 cases r <;> exact ⟨_, rfl⟩
section
variable {E : bG} {res : List az} {c : Nat} {B : List (List V)} {T : List (Nat × Nat)}
theorem kL (E : bG) : ∀ (l : List aj) (ts : List az), l.length ≠ ts.length → bA E l ts = none
 | [], [], h => absurd rfl h
 | [], _ :: _, _ => by unfold bA; rfl
 | _ :: _, [], _ => by unfold bA; rfl
 | x :: l, t :: ts, h => by
  unfold bA
  rw [kL E l ts (by simpa using h)]
  cases aV (aC E x t) t <;> rfl
theorem ot (E : bG) (l : List aj) (ts : List az) (i : Nat) (h : i < l.length) (h' : i < ts.length) : bA E (l.drop i) (ts.drop i) = match aV (aC E l[i] ts[i]) ts[i] with
 | some y => (bA E (l.drop (i + 1)) (ts.drop (i + 1))).map fun l => y :: l
 | none => none := by
 rw [List.drop_eq_getElem_cons h, List.drop_eq_getElem_cons h']
 conv => lhs; unfold bA
 rfl
end
section
variable {bs : List UInt8} {f : FuncId} {ar : List V} {s s' : Ps} {v : V} {c : Nat} {B J : List (List V)} {T : List (Nat × Nat)} {stop : dS} {k : List Item} {d : Option Tmp} {env : List V}
theorem PP.call (h : PP bs f ar s v s') (hc : c < B.length) (wX : Ux bs s) (hk : Ux bs s' → stop k (aK env d v) ⟨B.set c (UB bs s') ++ J, T⟩) : qQ Tryz.prog av stop (.func f [] []) (.ptr c 0 :: ar) k d env ⟨B.set c (UB bs s) ++ J, T⟩ :=
 PF.call (i := 0) h hc wX fun _ => hk
end
end Go.Proofs.YtnfnbjjnjjdjdaaGreatDoor
namespace Go.Proofs.YtnfnbjjnjjdjdaaGreatDoor
open Go.RowKit Go.Av Go.Ab
section
variable {bs : List UInt8} {f : FuncId} {ar : List V} {s s' : Ps} {v : V} {c : Nat} {B J : List (List V)} {T : List (Nat × Nat)} {env : List V}
end
end Go.Proofs.YtnfnbjjnjjdjdaaGreatDoor
namespace Go.Ab
open Go.RowKit Go.Av
section
variable {P : Program} {I : Inv} {z : Nat × Nat} {fn : FuncId} {R : V → Mem → Prop} {k : List Item} {env : List V}
theorem af.after {α : Type} (pre K : List Item) (st : α → List V × Mem) (ok : α → Prop) {S : Mem} (h1 : ∀ a, ok a → af P I z fn K (st a).1 (st a).2 R)
 (h2 : ∀ K', (∀ a, ok a → ∀ cr S', gC (st a).1 cr → (st a).2 = S' → af P I z fn K' cr S' R) → af P I z fn (pre ++ K') env S R) : af P I z fn (pre ++ K) env S R :=
 h2 K fun a ha _ _ he hS => af.fX he (hS ▸ h1 a ha)
theorem VR.plain {c : Cx} {w : World} {rows : List (List D)} {tk : Tok} {v : Value} (h : VR c w (.sl rows tk) v) : VR c w (.d (.sl rows)) v := by
 cases h with
 | full _ a h ha => exact .d _ _ h
 | own _ t a cap i h ht hr hn hl => exact .d _ _ h
def kM (vs us : List V) : Prop := us.length = vs.length ∧ ∀ j (hj : j < vs.length) (eJ : j < us.length), us[j] = vs[j] ∨ ∃ rows tk, vs[j] = .sl rows tk ∧ us[j] = .d (.sl rows)
theorem kM.nil : kM [] [] := ⟨rfl, fun j hj => absurd hj (Nat.not_lt_zero j)⟩
theorem kM.same {v : V} {vs us : List V} (h : kM vs us) : kM (v :: vs) (v :: us) := ⟨by simp [h.1], fun j hj eJ => by
 cases j with
 | zero => exact .inl rfl
 | succ j => exact h.2 j (by simpa using hj) (by simpa using eJ)⟩
theorem kM.sl {rows : List (List D)} {tk : Tok} {vs us : List V} (h : kM vs us) : kM (.sl rows tk :: vs) (.d (.sl rows) :: us) := ⟨by simp [h.1], fun j hj eJ => by
 cases j with
 | zero => exact .inr ⟨rows, tk, rfl, rfl⟩
 | succ j => exact h.2 j (by simpa using hj) (by simpa using eJ)⟩
theorem af.LG {B : List (List V)} {T : List (Nat × Nat)} (i q : Nat) (vs : List V) (rows : List (List D)) (hi : B[i]? = some vs) (hq : vs[q]? = some (.sl rows .full)) (sz : Nat) (h0 : 0 < sz) (dG : cV sz rows = true)
 (h : af P I z fn k env ⟨B.set i (vs.set q (.sl rows (.own T.length))), T ++ [(rows.length, sz)]⟩ R) : af P I z fn k env ⟨B, T⟩ R := by
 intro b a c w c0 w0 h1 h2 h3 h4 h5 h6 hI
 have hiB := (List.getElem?_eq_some_iff.1 hi).1
 obtain ⟨hqv, y5⟩ := List.getElem?_eq_some_iff.1 hq
 have hlen : B.length = c.ρ.length := h5.len
 obtain ⟨b0, iM⟩ : ∃ b0, c.ρ[i]? = some b0 := ⟨_, List.getElem?_eq_getElem (by omega)⟩
 have hT0 := h5.zg iM hi (by
  rintro ks us rfl
  match q, hq with
  | 0, hq => cases hq)
 obtain ⟨_, o, ho, nN, e1, e2⟩ := h5.box i b0 iM
 obtain ⟨cs, Ty, hh, e2, e3⟩ := e2.Fz ho hT0
 have e1 : B[i]? = some nN := e1
 rw [hi] at e1
 obtain rfl := Option.some.inj e1
 have hv := (e3 q hqv).1
 rw [y5] at hv
 obtain ⟨c', r1, r2, r3⟩ := h5.token hv sz h0 (fU dG)
 refine h b a c' w c0 w0 h1 h2 h3 (h4.ext r2) ?_ (h6.trans r2) ⟨r2.I.trans hI.1, hI.2⟩
 have PJ := r2.keeps.ρ i b0 iM
 have ac0 : (⟨B, T ++ [(rows.length, sz)]⟩ : Mem).boxes[i]? = some vs := hi
 refine ⟨r1.hB, by simpa using r1.len, fun j bj hj => ?_, r1.inj, r1.aL, r1.tok, r1.qH, r1.inv⟩
 obtain ⟨a', o', hh', us, f1, f2⟩ := r1.box j bj hj
 have f1 : B[j]? = some us := f1
 by_cases e : j = i
 ·subst e
  rw [hi] at f1
  obtain rfl := Option.some.inj f1
  rw [PJ] at hj
  obtain rfl := Option.some.inj hj
  obtain ⟨LB, Ty', U0, g2, f3⟩ := f2.Fz hh' (hT0.imp fun T => r2.keeps.ty b0 T)
  rw [hh] at U0
  obtain ⟨rfl, rfl⟩ : cs = LB ∧ Ty = Ty' := by
   have := Option.some.inj U0
   simp at this
   exact this
  refine ⟨a', _, hh, vs.set q (.sl rows (.own T.length)), by show (B.set j _)[j]? = _; simp [hiB], .cells cs Ty _ (by simp [e2]) fun m hm => ?_⟩
  have S7 : m < vs.length := by simpa using hm
  refine ⟨?_, (f3 m S7).2⟩
  by_cases hmq : m = q
  ·subst hmq
   rw [List.getElem_set_self]
   exact r3
  ·rw [List.getElem_set_ne (fun h => hmq h.symm)]
   exact (f3 m S7).1
 ·exact ⟨a', o', hh', us, by show (B.set i _)[j]? = _; rw [List.getElem?_set_ne (fun h => e h.symm)]; exact f1, f2⟩
end
end Go.Ab
namespace Go.Proofs.YtnfnbjjnjjdjdaaGreatDoor
open Go.RowKit Go.Av Go.Ab
set_option linter.unusedSimpArgs false
set_option maxRecDepth 100000
theorem aD.less {P : Program} {I : Inv} {f : FuncId} {vs us : List V} {S : Mem} {R : V → Mem → Prop} (hl : kM vs us) (h : aD P I f us S R) : aD P I f vs S R := by
 refine ⟨h.1, fun c w xs h1 h2 h3 hI => h.2 c w xs (by rw [h1, hl.1]) (fun j hj => ?_) h3 hI⟩
 have eJ : j < vs.length := by rw [← hl.1]; exact hj
 rcases hl.2 j eJ hj with e | ⟨rows, tk, e1, e2⟩
 ·rw [e]; exact h2 j eJ
 ·rw [e2]
  have := h2 j eJ
  rw [e1] at this
  exact this.plain
inductive CA : V → V → Prop
 | refl (v : V) : CA v v
 | sl (rows : List (List D)) (tk : Tok) : CA (.sl rows tk) (.d (.sl rows))
 | agg (vs us : List V) : kM vs us → CA (.agg vs) (.agg us)
def CB (vs us : List V) : Prop := us.length = vs.length ∧ ∀ j (hj : j < vs.length) (eJ : j < us.length), CA vs[j] us[j]
theorem CB.nil : CB [] [] := ⟨rfl, fun j hj => absurd hj (Nat.not_lt_zero j)⟩
theorem CB.cons {v u : V} {vs us : List V} (hv : CA v u) (h : CB vs us) : CB (v :: vs) (u :: us) := ⟨by simp [h.1], fun j hj eJ => by
 cases j with
 | zero => exact hv
 | succ j => exact h.2 j (by simpa using hj) (by simpa using eJ)⟩
theorem CC (x : aj) : [eH x] = [x].map eH := rfl
theorem IV (x y : aj) : [eH x, eH y] = [x, y].map eH := rfl
section
variable {E : bG} {res : List az} {c : Nat} {B : List (List V)} {T : List (Nat × Nat)}
end
set_option linter.defProp false
def jM := by
 have c := aN Tryz.f168 (by conv => lhs; cbv)
 dsimp only [KK, fj, eR, eS, List.map_cons, List.map_nil, List.toList_toArray] at c
 exact c
theorem U1 : bK Tryz.prog 168 Tryz.f168 35 := ⟨Tryz.func168, by kernel_rfl⟩
def YE := by
 have c := aN Tryz.f193 (by conv => lhs; cbv)
 dsimp only [KK, fj, eR, eS, List.map_cons, List.map_nil, List.toList_toArray] at c
 exact c
theorem YF : bK Tryz.prog 193 Tryz.f193 8 := ⟨Tryz.func193, by kernel_rfl⟩
theorem E2 (P : Program) (ev : Operand → V) (S : Mem) (t : TypeId) (m k : Operand) (ok : Bool) : cU P ev S (.lookup t m k ok) = still S (cS P S t (ev m) (ev k) ok) := rfl
theorem xL (P : Program) (ev : Operand → V) (S : Mem) (t : TypeId) (m k x : Operand) : cU P ev S (.mapUpdate t m k x) = eP P S t (ev m) (ev k) (ev x) := rfl
theorem CD (P : Program) (ev : Operand → V) (S : Mem) (t : TypeId) : cU P ev S (.makeMap t none) = some (.mp S.boxes.length, { S with boxes := S.boxes ++ [[.nI [] []]] }) := rfl
set_option linter.defProp false in
def nG := And.intro E2 (And.intro xL CD)
theorem CE {α : Type} (nm : α → List UInt8) (v : α → V) (n : List UInt8) : ∀ l : List α, A8 (l.map nm) (l.map v) n = (fD nm l n).map v
 | [] => rfl
 | x :: l => by
  have ih := CE nm v n l
  unfold A8 at ih ⊢
  rw [List.map_cons, List.map_cons, jG, fD]
  by_cases h : nm x = n
  ·rw [if_pos h, if_pos h]; rfl
  ·rw [if_neg h, if_neg h]
   cases hk : jG (l.map nm) n with
   | none => rw [hk] at ih; exact ih
   | some j => rw [hk] at ih; exact ih
theorem rL {t : Nat} {z : V} {α : Type} {nm : α → List UInt8} {g : α → V} {l : List α} {B : List (List V)} {T : List (Nat × Nat)} {i : Nat} (hz : pM Tryz.prog t = some z) (hb : B[i]? = some [.nI (l.map nm) (l.map g)]) (n : List UInt8) (ok : Bool) : cS Tryz.prog ⟨B, T⟩ t (.mp i) (.d (.str n)) ok = some (fW z ((fD nm l n).map g) ok) := by
 unfold cS
 simp only [hz, hb, CE]
def OA : V := .agg [.d (.str []), .sl [] .full]
def S8 : V := .agg [.d (.str []), .sl [] .full, .sl [] .full, .sl [] .full]
def WE : V := .agg [.d (.int .i64 0), .d (.str []), .sl [] .full]
theorem LH : pM Tryz.prog 60 = some OA := by kernel_rfl
theorem LI : pM Tryz.prog 61 = some S8 := by kernel_rfl
theorem E3 : pM Tryz.prog 62 = some WE := by kernel_rfl
section
variable {E : bG} {res : List az} {c s f w : Nat} {B : List (List V)} {T : List (Nat × Nat)}
theorem rF.lt (h : rF B c s f w E res) : c < B.length ∧ s < B.length ∧ f < B.length ∧ w < B.length :=
 ⟨(List.getElem?_eq_some_iff.1 h.c).1, (List.getElem?_eq_some_iff.1 h.s).1, (List.getElem?_eq_some_iff.1 h.f).1, (List.getElem?_eq_some_iff.1 h.w).1⟩
theorem rF.more (h : rF B c s f w E res) (J : List (List V)) : rF (B ++ J) c s f w E res :=
 h.dZ (ai h.lt.1) (ai h.lt.2.1) (ai h.lt.2.2.1) (ai h.lt.2.2.2)
theorem rF.wg (h : rF B c s f w E res) (n : List UInt8) (ok : Bool) (J : List (List V)) (T : List (Nat × Nat)) : cS Tryz.prog ⟨B ++ J, T⟩ 60 (.mp s) (.d (.str n)) ok = some (fW OA ((fD cM.name E.su n).map xC) ok) := rL LH (h.more J).s n ok
theorem rF.Gv (h : rF B c s f w E res) (n : List UInt8) (ok : Bool) (J : List (List V)) (T : List (Nat × Nat)) : cS Tryz.prog ⟨B ++ J, T⟩ 61 (.mp f) (.d (.str n)) ok = some (fW S8 ((fD cR.name E.fu n).map xD) ok) := rL LI (h.more J).f n ok
theorem rF.fW (h : rF B c s f w E res) (n : List UInt8) (ok : Bool) (J : List (List V)) (T : List (Nat × Nat)) : cS Tryz.prog ⟨B ++ J, T⟩ 62 (.mp w) (.d (.str n)) ok = some (Go.Ab.fW WE ((fD bI.name E.vs n).map fun p => aT p.type) ok) := rL E3 (h.more J).w n ok
set_option maxHeartbeats 4000000 in
theorem OB (n : List UInt8) (h : rF B c s f w E res) : aD Tryz.prog av 64 [.ptr c 0, .d (.str n)] ⟨B, T⟩ (aB (.d (.bool (gV E.su E.fu n))) ⟨B, T⟩) := by
 obtain ⟨N, hn⟩ : ∃ N, B.length = N := ⟨_, rfl⟩
 have hi : c < N := by rw [← hn]; exact h.lt.1
 have hb := h.c
 unfold xF at hb
 have hs := h.wg n true [] T
 rw [List.append_nil] at hs
 have hf := h.Gv n true
 have qo : gV E.su E.fu n = ((fD cM.name E.su n).isNone && (fD cR.name E.fu n).isNone && !(decide (n = [95]))) := by
  unfold gV
  congr 2
  rw [Bool.eq_iff_iff]; simp
 rw [qo]
 cases h1 : fD cM.name E.su n <;> cases h2 : fD cR.name E.fu n <;> rw [h1] at hs <;> rw [h2] at hf <;> simp only [Go.Ab.fW, Option.map_some, Option.map_none, if_true, OA, S8, xC, xD] at hs hf
 all_goals
  refine b64.go 160 rfl fun _ => ?_
  simp only [W, seval, c64, nG, hn, hi, hb, hs, hf, Bool.not_true, Bool.not_false, Bool.true_eq_false, Bool.false_eq_true]
  refine af.ret Tryz.func64 rfl (Left.box ?_)
  exact ⟨rfl, rfl⟩
set_option maxHeartbeats 4000000 in
theorem yE {t : az} (ht : TW t) (h : rF B c s f w E res) : aD Tryz.prog av 68 [.ptr c 0, aT t] ⟨B, T⟩ (aB (.d (.bool (bP E.su t))) ⟨B, T⟩) := by
 obtain ⟨N, hn⟩ : ∃ N, B.length = N := ⟨_, rfl⟩
 have hi : c < N := by rw [← hn]; exact h.lt.1
 have mw : s < N := by rw [← hn]; exact h.lt.2.1
 have Gi := h.s
 have hb := h.c
 unfold xF at hb
 unfold aT
 refine b68.go 160 rfl fun bh => ?_
 simp only [eI] at bh
 simp only [W, seval, JG, hn]
 refine af.cJ (fun a : az => (bu 30 [(0, .ptr c 0), (3, .ptr N 0)], ⟨B ++ [jt a], T⟩)) (fun a => TW a ∧ bP E.su a = bP E.su t) (fun a => SizeOf.sizeOf a) t ⟨ht, rfl⟩ ?_ rfl ?_
 ·skip
  refine ay.env _ ?_
  simp only [cZ, seval]
 rintro a ⟨ha, h2⟩ ih
 cases ha with
 | sl n u hu =>
  rw [yC] at h2
  refine af.go 160 ?_
  simp only [W, seval, JG, hn, jt, az.kind, az.name, az.elem, decide_true, bH, bX, cO]
  refine ih u ⟨hu, h2⟩ (by simp; omega) _ _ ?_ rfl
  refine ay.env _ ?_
  simp only [cZ, seval]
 | leaf k n es hk =>
  have e8 := decide_eq_false hk
  rw [tL _ _ _ _ hk] at h2
  rw [← h2]
  have hs := h.wg n true
  clear ih h2
  cases h1 : fD cM.name E.su n <;> rw [h1] at hs <;> simp only [Go.Ab.fW, Option.map_some, Option.map_none, if_true, OA, xC] at hs
  all_goals
   refine af.go 160 ?_
   simp only [W, seval, JG, hn, jt, az.kind, az.name, az.elem, e8]
   refine af.bp 11 [] [c, s, N] (by kernel_rfl) (by kernel_rfl) (by kernel_rfl) (by kernel_rfl) (by kernel_rfl) (by kernel_rfl) (by kernel_rfl) ?_
   simp (maxSteps := 4000000) only [W, seval, JG, xw, nG, hn, hi, hb, hs, mw, Gi]
   by_cases h7 : k = 7
   ·have e7 := decide_eq_true h7
    refine af.go 160 ?_
    simp only [W, seval, JG, nG, hn, e7, Bool.not_true]
    refine af.ret Tryz.func68 rfl (Left.box ?_)
    simp only [h7]
    exact ⟨rfl, rfl⟩
   ·have e7 := decide_eq_false h7
    refine af.go 160 ?_
    simp only [W, seval, JG, nG, hn, e7, Bool.not_false]
    refine af.ret Tryz.func68 rfl (Left.box ?_)
    try rw [show decide (k ≠ 7) = true from decide_eq_true h7]
    exact ⟨rfl, rfl⟩
theorem wh {α : Type} (nm : α → List UInt8) : ∀ {l : List α} {n : List UInt8} {x : α}, fD nm l n = some x → x ∈ l
 | [], _, _, h => by cases h
 | y :: l, n, x, h => by
  unfold fD at h
  split at h
  ·rw [← Option.some.inj h]; exact List.mem_cons_self
  ·exact List.mem_cons_of_mem _ (wh nm h)
theorem CF (n : List UInt8) : ∀ (l : List bI) (i : Int), (bk (fun (x : bI) (_ : Unit) => (decide (x.name = n), ())) l i ()).1 = vZ bI.name l n i
 | [], _ => rfl
 | x :: l, i => by
  unfold bk vZ
  by_cases h : x.name = n
  ·rw [if_pos (decide_eq_true h), if_pos h]
  ·rw [if_neg (by simpa using h), if_neg h]
   exact CF n l (i + 1)
theorem IW (n : List UInt8) {i : Nat} {B : List (List V)} {T : List (Nat × Nat)} (hb : B[i]? = some [.d (.str n)]) (p : bI) : aD Tryz.prog av 193 [AS p, .ptr i 0] ⟨B, T⟩ (aB (.d (.bool (decide (p.name = n)))) ⟨B, T⟩) := by
 obtain ⟨N, hn⟩ : ∃ N, B.length = N := ⟨_, rfl⟩
 have hi : i < N := by rw [← hn]; exact (List.getElem?_eq_some_iff.1 hb).1
 unfold AS
 refine YF.go 60 rfl fun _ => ?_
 simp only [W, seval, YE, hn, hi, hb]
 refine af.ret Tryz.func193 rfl (Left.box ?_)
 exact ⟨rfl, rfl⟩
theorem yF {α : Type} {P : Program} {I : Inv} {g : FuncId} {first caps : List V} {Ci : α → V} {S : Mem} {f : α → Bool} : ∀ {l : List α}, (∀ x ∈ l, aD P I g (first ++ [Ci x] ++ caps) S (aB (.d (.bool (f x))) S)) → Good P I g first caps Ci (fun _ : Unit => S) (fun x _ => (f x, ())) l ()
 | [], _ => trivial
 | x :: l, h => ⟨h x (by simp), fun _ => yF fun y hy => h y (by simp [hy])⟩
theorem yG (n : List UInt8) {i : Nat} {B : List (List V)} {T : List (Nat × Nat)} (hb : B[i]? = some [.d (.str n)]) (l : List bI) (hl : l.length ≤ 60000) : aD Tryz.prog av 106 [.d (.sl (l.map gI)), .func 193 [] [.ptr i 0]] ⟨B, T⟩ (aB (.d (.int .i64 (vZ bI.name l n 0))) ⟨B, T⟩) := by
 rw [← CF n l 0]
 exact nr 193 [] [.ptr i 0] (fun _ : Unit => ⟨B, T⟩) (fun x _ => (decide (x.name = n), ())) (fun _ _ => ⟨rfl, rfl⟩) l (by omega) () (yF fun p _ => IW n hb p)
set_option maxHeartbeats 4000000 in
theorem CG (hT : nx E.su E.fu) (t : az) (n : List UInt8) (h : rF B c s f w E res) : aD Tryz.prog av 168 [.ptr c 0, aT t, .d (.str n)] ⟨B, T⟩ fun v S => EX (kD E.su t n) v ∧ S = ⟨B, T⟩ := by
 obtain ⟨N, hn⟩ : ∃ N, B.length = N := ⟨_, rfl⟩
 have hi : c < N := by rw [← hn]; exact h.lt.1
 have mw : s < N := by rw [← hn]; exact h.lt.2.1
 have Gi := h.s
 have hb := h.c
 unfold xF at hb
 have hs := h.wg t.name false
 have hf : kD E.su t n = if t.kind = 7 then (match fD cM.name E.su t.name with
  | some s => (fD bI.name s.fields n).map bI.type
  | none => none) else none := rfl
 rw [hf]
 unfold aT
 cases h1 : fD cM.name E.su t.name with
 | none =>
  rw [h1] at hs
  simp only [Go.Ab.fW, Option.map_none, OA, Bool.false_eq_true, if_false] at hs
  refine U1.go 160 rfl fun bh => ?_
  simp only [eI] at bh
  simp only [W, seval, jM, hn]
  refine af.bp 8 [] [c, s, N] (by kernel_rfl) (by kernel_rfl) (by kernel_rfl) (by kernel_rfl) (by kernel_rfl) (by kernel_rfl) (by kernel_rfl) ?_
  simp (maxSteps := 4000000) only [W, seval, jM, xw, nG, hn, hi, hb, hs, mw, Gi]
  refine af.go 160 ?_
  simp only [W, seval, jM, hn]
  refine ag (aD.less (kM.sl (kM.same .nil)) (yG n (i := N + 1) (by simp [dx hn]) [] (by simp))) ?_
  rintro _ _ ⟨rfl, rfl⟩
  have hr : (if t.kind = 7 then (none : Option az) else none) = none := by split <;> rfl
  by_cases h7 : t.kind = 7
  ·have e7 := decide_eq_true h7
   refine af.go 160 ?_
   simp only [W, seval, jM, nG, hn, e7, vZ, Bool.not_true, Int.reduceNeg, Int.reduceLT]
   refine ag (cH _ _) ?_
   rintro _ _ ⟨rfl, rfl⟩
   refine af.go 160 ?_
   simp only [W, seval, jM, hn, aT]
   refine ct (v := ?_) (u := ?_) Tryz.func168 (by rfl) ?_ ?_ ?_
   rotate_left 2
   ·try simp only [W, seval, jM, hn]
    exact rfl
   ·try simp only [W, seval, jM, hn]
    exact rfl
   refine Left.box ?_
   rw [hr]
   exact ⟨rfl, rfl⟩
  ·have e7 := decide_eq_false h7
   refine af.go 160 ?_
   simp only [W, seval, jM, nG, hn, e7, Bool.not_false]
   refine ag (cH _ _) ?_
   rintro _ _ ⟨rfl, rfl⟩
   refine af.go 160 ?_
   simp only [W, seval, jM, hn, aT]
   refine ct (v := ?_) (u := ?_) Tryz.func168 (by rfl) ?_ ?_ ?_
   rotate_left 2
   ·try simp only [W, seval, jM, hn]
    exact rfl
   ·try simp only [W, seval, jM, hn]
    exact rfl
   refine Left.box ?_
   rw [hr]
   exact ⟨rfl, rfl⟩
 | some st =>
  rw [h1] at hs
  simp only [Go.Ab.fW, Option.map_some, xC, Bool.false_eq_true, if_false] at hs
  obtain ⟨xk, _⟩ := hT.fl st (wh cM.name h1)
  refine U1.go 160 rfl fun bh => ?_
  simp only [eI] at bh
  simp only [W, seval, jM, hn]
  refine af.bp 8 [] [c, s, N] (by kernel_rfl) (by kernel_rfl) (by kernel_rfl) (by kernel_rfl) (by kernel_rfl) (by kernel_rfl) (by kernel_rfl) ?_
  simp (maxSteps := 4000000) only [W, seval, jM, xw, nG, hn, hi, hb, hs, mw, Gi]
  refine af.go 160 ?_
  simp only [W, seval, jM, hn]
  refine ag (yG n (i := N + 1) (by simp [dx hn]) st.fields xk) ?_
  rintro _ _ ⟨rfl, rfl⟩
  by_cases h7 : t.kind = 7
  ·have e7 := decide_eq_true h7
   rw [if_pos h7]
   rcases Gs bI.name st.fields n 0 (by omega) with ⟨g1, g2⟩ | ⟨j, p, g1, g2, g3⟩
   ·rw [g1, g2]
    refine af.go 160 ?_
    simp only [W, seval, jM, nG, hn, e7, Bool.not_true, Int.reduceNeg, Int.reduceLT]
    refine ag (cH _ _) ?_
    rintro _ _ ⟨rfl, rfl⟩
    refine af.go 160 ?_
    simp only [W, seval, jM, hn, aT]
    refine ct (v := ?_) (u := ?_) Tryz.func168 (by rfl) ?_ ?_ ?_
    rotate_left 2
    ·try simp only [W, seval, jM, hn]
     exact rfl
    ·try simp only [W, seval, jM, hn]
     exact rfl
    refine Left.box ?_
    exact ⟨rfl, rfl⟩
   ·have g1 : vZ bI.name st.fields n 0 = (j : Int) := by omega
    have e1 : decide ((j : Int) < 0) = false := decide_eq_false (by omega)
    have hj := (List.getElem?_eq_some_iff.1 g2).1
    have hg : (st.fields.map gI)[j]? = some (gI p) := by rw [List.getElem?_map, g2]; rfl
    rw [qq] at hg
    rw [g1, g3]
    refine af.go 160 ?_
    simp only [W, seval, jM, nG, hn, e7, e1, hg, hj, Bool.not_true]
    refine ct (v := ?_) (u := ?_) Tryz.func168 (by rfl) ?_ ?_ ?_
    rotate_left 2
    ·try simp only [W, seval, jM, hn]
     exact rfl
    ·try simp only [W, seval, jM, hn]
     exact rfl
    refine Left.box ?_
    exact ⟨rfl, rfl⟩
  ·have e7 := decide_eq_false h7
   rw [if_neg h7]
   refine af.go 160 ?_
   simp only [W, seval, jM, nG, hn, e7, Bool.not_false]
   refine ag (cH _ _) ?_
   rintro _ _ ⟨rfl, rfl⟩
   refine af.go 160 ?_
   simp only [W, seval, jM, hn, aT]
   refine ct (v := ?_) (u := ?_) Tryz.func168 (by rfl) ?_ ?_ ?_
   rotate_left 2
   ·try simp only [W, seval, jM, hn]
    exact rfl
   ·try simp only [W, seval, jM, hn]
    exact rfl
   refine Left.box ?_
   exact ⟨rfl, rfl⟩
end
mutual
def bJ : aj → aj
 | .mk k t i ty ns ks => .mk k t i (if k = 2 then bO else ty) ns (aM ks)
def aM : List aj → List aj
 | [] => []
 | x :: l => bJ x :: aM l
end
theorem gQ : ∀ l : List aj, (aM l).length = l.length
 | [] => by simp [aM]
 | x :: l => by simp [aM, gQ l]
theorem fR {r : Option (aj × az)} {t : az} {y : aj} (h : aV r t = some y) : ∃ u, r = some (y, u) := by
 unfold aV at h
 split at h
 ·split at h
  ·obtain rfl := Option.some.inj h; exact ⟨_, rfl⟩
  ·cases h
 ·cases h
theorem Ae {fa fb : az → Option (aj × az)} {la : Bool} {w : az} {a b : aj} {t : az} (h : rE fa fb la w = some (a, b, t)) : (∃ w u, fa w = some (a, u)) ∧ ∃ w u, fb w = some (b, u) := by
 unfold rE at h
 split at h
 ·split at h
  ·rename_i b' t' hb
   obtain ⟨a', ha, e⟩ := Option.map_eq_some_iff.1 h
   obtain ⟨rfl, rfl, rfl⟩ := e
   obtain ⟨u, hu⟩ := fR ha
   exact ⟨⟨_, u, hu⟩, ⟨_, _, hb⟩⟩
  ·cases h
 ·split at h
  ·rename_i b' t' hb
   obtain ⟨a', ha, e⟩ := Option.map_eq_some_iff.1 h
   obtain ⟨rfl, rfl, rfl⟩ := e
   obtain ⟨u, hu⟩ := fR ha
   exact ⟨⟨_, _, hb⟩, ⟨_, u, hu⟩⟩
  ·cases h
theorem RL {fa fb : az → Option (aj × az)} {la : Bool} {tx : List UInt8} {w : az} {a b : aj} {t : az} (h : pG fa fb la tx w = some (a, b, t)) : (∃ w u, fa w = some (a, u)) ∧ ∃ w u, fb w = some (b, u) := by
 have key : ∀ {r : Option (aj × aj × az)} {p : aj → aj → az → Option (aj × aj × az)}, (match r with | some (a, b, t) => p a b t | none => none) = some (a, b, t) → (∀ a1 b1 t1, p a1 b1 t1 = some (a, b, t) → a1 = a ∧ b1 = b) → ∃ t1, r = some (a, b, t1) := by
  intro r p h hp
  cases r with
  | none => cases h
  | some q =>
   obtain ⟨a1, b1, t1⟩ := q
   obtain ⟨rfl, rfl⟩ := hp _ _ _ h
   exact ⟨t1, rfl⟩
 unfold pG at h
 split at h
 ·split at h
  ·rename_i a' b' ha hb
   obtain ⟨rfl, rfl, rfl⟩ := Option.some.inj h
   obtain ⟨u, hu⟩ := fR ha
   obtain ⟨v, hv⟩ := fR hb
   exact ⟨⟨_, u, hu⟩, ⟨_, v, hv⟩⟩
  ·cases h
 split at h
 ·split at h
  ·rename_i a' t' ha
   split at h
   ·obtain ⟨b', hb, e⟩ := Option.map_eq_some_iff.1 h
    obtain ⟨rfl, rfl, rfl⟩ := e
    obtain ⟨u, hu⟩ := fR hb
    exact ⟨⟨_, _, ha⟩, ⟨_, u, hu⟩⟩
   ·cases h
  ·cases h
 split at h
 ·obtain ⟨t1, h1⟩ := key h (fun a1 b1 t1 h => by
   split at h
   ·obtain ⟨rfl, rfl, _⟩ := Option.some.inj h; exact ⟨rfl, rfl⟩
   ·cases h)
  exact Ae h1
 split at h
 ·obtain ⟨t1, h1⟩ := key h (fun a1 b1 t1 h => by
   split at h
   ·obtain ⟨rfl, rfl, _⟩ := Option.some.inj h; exact ⟨rfl, rfl⟩
   ·cases h)
  exact Ae h1
 ·obtain ⟨t1, h1⟩ := key h (fun a1 b1 t1 h => by
   split at h
   ·obtain ⟨rfl, rfl, _⟩ := Option.some.inj h; exact ⟨rfl, rfl⟩
   ·cases h)
  exact Ae h1
mutual
theorem bR (E : bG) : ∀ (x : aj) (w : az) (y : aj) (t : az), aC E x w = some (y, t) → bJ y = bJ x
 | .mk k tx i ty ns ks, w, y, t, h => by
  unfold aC at h
  by_cases c0 : k = 3
  ·rw [if_pos c0] at h
   obtain ⟨rfl, _⟩ := h; rfl
  rw [if_neg c0] at h
  by_cases c1 : k = 1
  ·rw [if_pos c1] at h
   obtain ⟨p, _, e⟩ := Option.map_eq_some_iff.1 h
   obtain ⟨rfl, _⟩ := e; rfl
  rw [if_neg c1] at h
  by_cases c2 : k = 6
  ·rw [if_pos c2] at h
   split at h
   ·rename_i a b
    obtain ⟨⟨a', b', t'⟩, hr, e⟩ := Option.map_eq_some_iff.1 h
    obtain ⟨rfl, _⟩ := e
    obtain ⟨⟨_, _, ha⟩, ⟨_, _, hb⟩⟩ := RL hr
    simp only [bJ, aM, bR E a _ _ _ ha, bR E b _ _ _ hb]
   ·cases h
  rw [if_neg c2] at h
  by_cases c3 : k = 7
  ·rw [if_pos c3] at h
   split at h
   ·rename_i l t' hr
    obtain ⟨rfl, _⟩ := h
    unfold vX at hr
    split at hr
    ·obtain ⟨l', hl, e⟩ := Option.map_eq_some_iff.1 hr
     have e := (Prod.mk.inj e).1
     subst e
     simp only [bJ, ga E ks _ _ hl]
    ·cases hr
   ·cases h
  rw [if_neg c3] at h
  by_cases c4 : k = 9
  ·rw [if_pos c4] at h
   split at h
   ·rename_i a
    split at h
    ·rename_i a' t' ha
     obtain ⟨_, _, e⟩ := Option.map_eq_some_iff.1 h
     obtain ⟨rfl, _⟩ := e
     simp only [bJ, aM, bR E a _ _ _ ha]
    ·cases h
   ·cases h
  rw [if_neg c4] at h
  by_cases c5 : k = 12
  ·rw [if_pos c5] at h
   split at h
   ·rename_i a
    split at h
    ·rename_i a' t' ha
     obtain ⟨_, _, e⟩ := Option.map_eq_some_iff.1 h
     obtain ⟨rfl, _⟩ := e
     simp only [bJ, aM, bR E a _ _ _ ha]
    ·cases h
   ·cases h
  rw [if_neg c5] at h
  by_cases c6 : k = 10
  ·rw [if_pos c6] at h
   split at h
   ·rename_i a b
    split at h
    ·rename_i a' t' ha
     obtain ⟨_, _, h⟩ := Option.bind_eq_some_iff.1 h
     obtain ⟨b', hb, e⟩ := Option.map_eq_some_iff.1 h
     obtain ⟨rfl, _⟩ := e
     obtain ⟨_, hb⟩ := fR hb
     simp only [bJ, aM, bR E a _ _ _ ha, bR E b _ _ _ hb]
    ·cases h
   ·cases h
  rw [if_neg c6] at h
  by_cases c7 : k = 11
  ·rw [if_pos c7] at h
   split at h
   ·rename_i a b c
    split at h
    ·rename_i a' t' ha
     obtain ⟨_, _, h⟩ := Option.bind_eq_some_iff.1 h
     obtain ⟨b', hb, h⟩ := Option.bind_eq_some_iff.1 h
     obtain ⟨c', hc, e⟩ := Option.map_eq_some_iff.1 h
     obtain ⟨rfl, _⟩ := e
     obtain ⟨_, hb⟩ := fR hb
     obtain ⟨_, hc⟩ := fR hc
     simp only [bJ, aM, bR E a _ _ _ ha, bR E b _ _ _ hb, bR E c _ _ _ hc]
    ·cases h
   ·cases h
  rw [if_neg c7] at h
  by_cases c8 : k = 13
  ·rw [if_pos c8] at h
   split at h
   ·rename_i a b
    split at h
    ·rename_i a' t' ha
     obtain ⟨_, _, h⟩ := Option.bind_eq_some_iff.1 h
     obtain ⟨b', hb, e⟩ := Option.map_eq_some_iff.1 h
     obtain ⟨rfl, _⟩ := e
     obtain ⟨_, hb⟩ := fR hb
     simp only [bJ, aM, bR E a _ _ _ ha, bR E b _ _ _ hb]
    ·cases h
   ·cases h
  rw [if_neg c8] at h
  by_cases c9 : k = 14
  ·rw [if_pos c9] at h
   split at h
   ·obtain ⟨l, hl, e⟩ := Option.map_eq_some_iff.1 h
    obtain ⟨rfl, _⟩ := e
    obtain ⟨_, _, hl⟩ := Option.bind_eq_some_iff.1 hl
    simp only [bJ, ga E ks _ _ hl]
   ·cases h
  rw [if_neg c9] at h
  by_cases c10 : k = 15
  ·rw [if_pos c10] at h
   split at h
   ·obtain ⟨l, hl, e⟩ := Option.map_eq_some_iff.1 h
    obtain ⟨rfl, _⟩ := e
    obtain ⟨_, _, hl⟩ := Option.bind_eq_some_iff.1 hl
    simp only [bJ, ga E ks _ _ hl]
   ·cases h
  rw [if_neg c10] at h
  by_cases WH : gN (.mk k tx i ty ns ks) = true
  ·rw [if_pos WH] at h
   unfold nY at h
   split at h
   ·rename_i h5
    have h5 : k = 5 := h5
    split at h
    ·rename_i a SY hk
     have hk : ks = a :: SY := hk
     split at h
     ·obtain ⟨rfl, _⟩ := h
      have h2 : a.kind = 2 := by
       subst h5 hk
       simpa [gN] using WH
      obtain ⟨k1, t1, i1, ty1, n1, s1⟩ := a
      have h2 : k1 = 2 := h2
      rw [hk]
      simp only [aP, setType, bJ, aM, h2, if_true]
     ·cases h
    ·cases h
   ·rename_i h5
    have h5 : ¬ k = 5 := h5
    split at h
    ·cases h
    ·obtain ⟨rfl, _⟩ := h
     have h2 : k = 2 := by simpa [gN, h5] using WH
     simp only [setType, bJ, h2, if_true]
  rw [if_neg WH] at h
  by_cases UQ : k = 4
  ·rw [if_pos UQ] at h
   split at h
   ·rename_i a
    obtain ⟨a', ha, e⟩ := Option.map_eq_some_iff.1 h
    obtain ⟨rfl, _⟩ := e
    obtain ⟨_, ha⟩ := fR ha
    simp only [bJ, aM, bR E a _ _ _ ha]
   ·cases h
  rw [if_neg UQ] at h
  by_cases Yt : k = 5
  ·rw [if_pos Yt] at h
   split at h
   ·rename_i a
    split at h
    ·rename_i a' t' ha
     split at h
     ·obtain ⟨rfl, _⟩ := h
      simp only [bJ, aM, bR E a _ _ _ ha]
     ·cases h
    ·cases h
   ·cases h
  rw [if_neg Yt] at h
  ·split at h
   ·rename_i a
    split at h
    ·obtain ⟨a', ha, e⟩ := Option.map_eq_some_iff.1 h
     obtain ⟨rfl, _⟩ := e
     obtain ⟨_, ha⟩ := fR ha
     simp only [bJ, aM, bR E a _ _ _ ha]
    ·split at h
     ·rename_i a' t' ha
      split at h
      ·obtain ⟨rfl, _⟩ := h
       simp only [bJ, aM, bR E a _ _ _ ha]
      ·cases h
     ·cases h
   ·cases h
theorem ga (E : bG) : ∀ (l : List aj) (ts : List az) (m : List aj), bA E l ts = some m → aM m = aM l
 | [], [], m, h => by unfold bA at h; rw [← Option.some.inj h]
 | [], _ :: _, m, h => by unfold bA at h; cases h
 | _ :: _, [], m, h => by unfold bA at h; cases h
 | x :: l, t :: ts, m, h => by
  unfold bA at h
  split at h
  ·rename_i y hy
   obtain ⟨m', hm, rfl⟩ := Option.map_eq_some_iff.1 h
   obtain ⟨u, hu⟩ := fR hy
   simp only [aM, bR E x _ _ _ hu, ga E l ts m' hm]
  ·cases h
end
def xM (lo hi : Nat) (B B1 : List (List V)) : Prop := B1.length = B.length ∧ (∀ i, ¬ (lo ≤ i ∧ i < hi) → B1[i]? = B[i]?) ∧ ∀ (i : Nat) (Y : List V), B1[i]? = some Y → ∀ v ∈ Y, (∃ X, B[i]? = some X ∧ v ∈ X) ∨ fit 0 0 v = true
theorem xM.refl (lo hi : Nat) (B : List (List V)) : xM lo hi B B := ⟨rfl, fun _ _ => rfl, fun _ Y hY _ hv => .inl ⟨Y, hY, hv⟩⟩
theorem xM.trans {lo hi : Nat} {B B1 B2 : List (List V)} (h : xM lo hi B B1) (h1 : xM lo hi B1 B2) : xM lo hi B B2 :=
 ⟨h1.1.trans h.1, fun i hi => (h1.2.1 i hi).trans (h.2.1 i hi), fun i Y hY v hv => (h1.2.2 i Y hY v hv).elim (fun ⟨X, hX, hm⟩ => h.2.2 i X hX v hm) .inr⟩
theorem xM.wide {lo hi eC dM : Nat} {B B1 : List (List V)} (h : xM eC dM B B1) (h1 : lo ≤ eC) (h2 : dM ≤ hi) : xM lo hi B B1 := ⟨h.1, fun i hi => h.2.1 i (by omega), h.2.2⟩
theorem xM.put {lo hi j : Nat} {B : List (List V)} {X Y : List V} (h1 : lo ≤ j) (h2 : j < hi) (hX : B[j]? = some X) (hY : ∀ v ∈ Y, v ∈ X ∨ fit 0 0 v = true) : xM lo hi B (B.set j Y) := by
 refine ⟨List.length_set, fun i hi => List.getElem?_set_ne (by omega), fun i Z hZ v hv => ?_⟩
 by_cases e : i = j
 ·subst e
  rw [List.getElem?_set_self (List.getElem?_eq_some_iff.1 hX).1] at hZ
  obtain rfl := Option.some.inj hZ
  exact (hY v hv).imp (fun h => ⟨X, hX, h⟩) id
 ·rw [List.getElem?_set_ne fun h => e h.symm] at hZ
  exact .inl ⟨Z, hZ, hv⟩
theorem wj {x y : aj} (h : bJ x = bJ y) : aM x.kids = aM y.kids := by
 cases x; cases y
 simp only [bJ, aj.mk.injEq] at h
 exact h.2.2.2.2.2
theorem Af : ∀ (l m : List aj) (B : List (List V)) (lo hi : Nat) (X : List V), aM l = aM m → jB B l lo hi X → ∃ B1 X1, xM lo hi B B1 ∧ jB B1 m lo hi X1 ∧ ∀ v ∈ X1, v ∈ X ∨ fit 0 0 v = true
 | [], [], B, lo, hi, X, _, h => ⟨B, X, .refl _ _ _, h, fun _ hv => .inl hv⟩
 | [], _ :: _, _, _, _, _, e, _ => by simp [aM] at e
 | _ :: _, [], _, _, _, _, e, _ => by simp [aM] at e
 | .mk k t i ty ns ks :: l, y :: m, B, lo, hi, X, e, h => by
  simp only [aM, List.cons.injEq] at e
  obtain ⟨e1, e2⟩ := e
  unfold jB at h
  obtain ⟨r, X', q, rfl, h2, h3, h4, h5, h6⟩ := h
  obtain ⟨kv, rfl, hv⟩ := iH.1 h5
  have hk := wj e1
  have hlen : ks.length = y.kids.length := by rw [← gQ ks, ← gQ y.kids]; exact congrArg _ hk
  have new : ∀ v ∈ aR y kv, v ∈ aR (.mk k t i ty ns ks) kv ∨ fit 0 0 v = true := fun v hv => by
   have := sQ (A := []) (C := []) (x := .mk k t i ty ns ks) v (by simpa using hv)
   simpa using this
  have key : ∃ B1, xM lo q B B1 ∧ fN B1 y.kids lo q kv := by
   rcases hv with ⟨g1, g2, g3⟩ | ⟨g1, j, cap, Y, g2, g3, g4, g5, g6⟩
   ·exact ⟨B, .refl _ _ _, .inl ⟨by rw [← hlen]; exact g1, g2, g3⟩⟩
   ·obtain ⟨B1, Y1, i1, i2, i3⟩ := Af ks y.kids B _ _ _ hk g6
    have hj : B1[j]? = some Y := by rw [i1.2.1 j (by omega)]; exact g5
    refine ⟨B1.set j Y1, (i1.wide (by omega) (Nat.le_refl _)).trans (.put g3 g4 hj i3), .inr ⟨by rw [← hlen]; exact g1, j, cap, Y1, by rw [← hlen]; exact g2, g3, g4, List.getElem?_set_self (List.getElem?_eq_some_iff.1 hj).1, jB.frame _ i2 fun i h7 h8 => List.getElem?_set_ne (by omega)⟩⟩
  obtain ⟨B1, i1, i2⟩ := key
  obtain ⟨B2, X2, j1, j2, j3⟩ := Af l m B1 q hi X' e2 (jB.frame l h6 fun i h7 h8 => i1.2.1 i (by omega))
  refine ⟨B2, aR y kv ++ X2, (i1.wide (Nat.le_refl _) h4).trans (j1.wide h3 (Nat.le_refl _)), ?_, fun v hv => ?_⟩
  ·unfold jB
   exact ⟨_, X2, q, rfl, rfl, h3, h4, iH.2 ⟨kv, rfl, i2.frame fun i h7 h8 => j1.2.1 i (by omega)⟩, j2⟩
  ·rcases List.mem_append.1 hv with hv | hv
   ·exact (new v hv).imp (fun h => List.mem_append_left _ h) id
   ·exact (j3 v hv).imp (fun h => List.mem_append_right _ h) id
termination_by l => SizeOf.sizeOf l
theorem bU.ex {B : List (List V)} {n c s f w : Nat} {E : bG} {res : List az} {j lo hi : Nat} {A C : List V} {kv : V} {x y : aj} (h : bU B n c s f w E res j lo hi A C kv x) (e : bJ y = bJ x) : ∃ B1, kJ j lo hi A C kv B B1 (some y) := by
 obtain ⟨n1, n2, n3, n4, n5, n6⟩ := h.nb
 have hl := h.nl
 have SV := h.jo
 have hk := (wj e).symm
 have hlen : x.kids.length = y.kids.length := by rw [← gQ x.kids, ← gQ y.kids]; exact congrArg _ hk
 have key : ∃ B1, xM lo hi B B1 ∧ fN B1 y.kids lo hi kv := by
  rcases h.own with ⟨g1, g2, g3⟩ | ⟨g1, j1, cap, Y, g2, g3, g4, g5, g6⟩
  ·exact ⟨B, .refl _ _ _, .inl ⟨by rw [← hlen]; exact g1, g2, g3⟩⟩
  ·obtain ⟨B1, Y1, i1, i2, i3⟩ := Af x.kids y.kids B _ _ _ hk g6
   have hj : B1[j1]? = some Y := by rw [i1.2.1 j1 (by omega)]; exact g5
   refine ⟨B1.set j1 Y1, (i1.wide (by omega) (Nat.le_refl _)).trans (.put g3 g4 hj i3), .inr ⟨by rw [← hlen]; exact g1, j1, cap, Y1, by rw [← hlen]; exact g2, g3, g4, List.getElem?_set_self (List.getElem?_eq_some_iff.1 hj).1, jB.frame _ i2 fun i h7 h8 => List.getElem?_set_ne (by omega)⟩⟩
 obtain ⟨B1, i1, i2⟩ := key
 have hj : B1[j]? = some (A ++ aR x kv ++ C) := by rw [i1.2.1 j (by omega)]; exact h.row
 have V5 := (List.getElem?_eq_some_iff.1 hj).1
 have i3 := (i1.wide (lo := 0) (hi := B.length) (Nat.zero_le _) (by omega)).trans (.put (Nat.zero_le j) (by omega) hj (sQ (y := y)))
 refine ⟨B1.set j (A ++ aR y kv ++ C), ⟨by rw [List.length_set, i1.1]; exact Nat.le_refl _, fun i _ ho => ?_, fun i _ => i3.2.2 i⟩, by rw [List.length_set, i1.1], fun z hz => ?_⟩
 ·rw [List.getElem?_set_ne fun e => ho.1 e.symm]
  exact i1.2.1 i (by have := ho.2; omega)
 ·obtain rfl := Option.some.inj hz
  exact ⟨List.getElem?_set_self V5, i2.frame fun i _ _ => List.getElem?_set_ne (by omega)⟩
def ou := by
 have c := aN Tryz.f192 (by conv => lhs; cbv)
 dsimp only [KK, fj, eR, eS, List.map_cons, List.map_nil, List.toList_toArray] at c
 exact c
theorem YG : bK Tryz.prog 192 Tryz.f192 43 := ⟨Tryz.func192, by kernel_rfl⟩
theorem Ag {X A C : List V} {x : aj} {kv : V} (hX : X = A ++ aR x kv ++ C) (ha : A.length = 0) : X[0]? = some (.d (.int .i64 x.kind)) ∧ X[7]? = some kv ∧ 8 ≤ X.length ∧ X.take 8 = aR x kv := by
 obtain ⟨h0, _, _, _, h7, h8, h9, _⟩ := cI hX ha
 rw [Nat.zero_add] at h7 h8
 exact ⟨h0, h7, h8, h9⟩
section
variable {E : bG} {res : List az} {n c s f w : Nat} {B : List (List V)} {T : List (Nat × Nat)} {j lo hi : Nat} {A C : List V} {kv : V}
theorem kJ.refl {r : Option aj} (hr : r = Option.none) : kJ j lo hi A C kv B B r := ⟨.refl _ _ _ _ _, rfl, fun z hz => by rw [hr] at hz; cases hz⟩
theorem lK.ne {x : aj} (h : bU B n c s f w E res j lo hi A C kv x) (want : az) : ∃ v S', lK (aC E x want) j lo hi A C kv B T v S' := by
 cases hr : aC E x want with
 | none => exact ⟨.bZ [aT bO, .d (.bool false)], _, B, rfl, .refl rfl, bO, rfl⟩
 | some p =>
  obtain ⟨y, t⟩ := p
  obtain ⟨B1, hB⟩ := h.ex (bR E x _ _ _ hr)
  exact ⟨_, _, B1, rfl, hB, rfl⟩
theorem pH.ne {x : aj} (h : bU B n c s f w E res j lo hi A C kv x) (want : az) : ∃ v S', pH (aV (aC E x want) want) j lo hi A C kv B T v S' := by
 cases hr : aV (aC E x want) want with
 | none => exact ⟨_, _, B, rfl, .refl rfl, rfl⟩
 | some y =>
  obtain ⟨u, hu⟩ := fR hr
  obtain ⟨B1, hB⟩ := h.ex (bR E x _ _ _ hu)
  exact ⟨_, _, B1, rfl, hB, rfl⟩
theorem bU.U2 {x : aj} (h : bU B n c s f w E res j lo hi A C kv x) {Z B2 : List (List V)} {r : Option aj} (hd : kJ j lo hi A C kv (B ++ Z) B2 r) : B2 = B2.take B.length ++ Z ∧ kJ j lo hi A C kv B (B2.take B.length) r := by
 obtain ⟨n1, n2, n3, n4, n5, n6⟩ := h.nb
 have hl := h.nl
 obtain ⟨he, hlen, hr⟩ := hd
 rw [List.length_append] at hlen
 have au : (B2.take B.length).length = B.length := by rw [List.length_take]; omega
 refine ⟨?_, ⟨by omega, fun i hi ho => ?_, fun i hi Y hY v hv => ?_⟩, au, fun y hy => ?_⟩
 ·apply List.ext_getElem?
  intro i
  rcases Nat.lt_or_ge i B.length with hi | hi
  ·rw [ai (by omega), fB hi]
  ·rw [List.getElem?_append_right (by omega), au]
   rcases Nat.lt_or_ge i (B ++ Z).length with h2 | h2
   ·rw [he.2.1 i h2 ⟨by omega, by omega⟩, List.getElem?_append_right hi]
   ·rw [List.length_append] at h2
    rw [List.getElem?_eq_none (by omega), List.getElem?_eq_none (by omega)]
 ·rw [fB hi, he.2.1 i (by rw [List.length_append]; omega) ho, ai hi]
 ·rw [fB hi] at hY
  have := he.2.2 i (by rw [List.length_append]; omega) Y hY v hv
  rwa [ai hi] at this
 ·obtain ⟨h1, h2⟩ := hr y hy
  exact ⟨by rw [fB (by omega)]; exact h1, h2.frame fun i _ hi => by rw [fB (by omega)]⟩
theorem bU.bx {x : aj} (h : bU B n c s f w E res j lo hi A C kv x) (hn : x.kids ≠ []) : ∃ j1 m cap, kv = .bx j1 m cap ∧ m = x.kids.length := by
 rcases h.own with ⟨h0, _⟩ | ⟨_, j1, cap, Y, h1, _⟩
 ·exact absurd (List.length_eq_zero_iff.1 h0) hn
 ·exact ⟨j1, _, cap, h1, rfl⟩
theorem bU.nC {j1 m cap : Nat} {x y : aj} (h : bU B n c s f w E res j lo hi A C (.bx j1 m cap) x) {k : Nat} (hk : x.kids[k]? = some y) :
 ∃ (eC dM : Nat) (A1 C1 : List V) (mc : V), A1.length = k * 8 ∧ (j1 < n ∧ Out j1 eC dM j) ∧ bU B n c s f w E res j1 eC dM A1 C1 mc y ∧
  (∀ B1 m, cm j1 eC dM m B B1 → cm j lo hi m B B1) ∧
  ∀ B1 z, kJ j1 eC dM A1 C1 mc B B1 (some z) → bU B1 n c s f w E res j lo hi A C (.bx j1 m cap) (aP x (x.kids.set k z)) := by
 obtain ⟨YH, cj, eC, dM, A1, C1, mc, e, h1, h2, h3, h4, h5⟩ := h.pV hk
 obtain ⟨rfl, rfl, rfl⟩ := V.bx.inj e
 exact ⟨eC, dM, A1, C1, mc, h1, h2, h3, h4, fun B1 z hd => h5 B1 z (hd.1.less h.nl) (hd.2.2 z rfl).1 (hd.2.2 z rfl).2⟩
def mz : List V := [.d (.int .i64 0), .d (.str []), .sl [] .full]
theorem eD (x : aj) (l m : List aj) : aP (aP x l) m = aP x m := by cases x; rfl
set_option maxHeartbeats 8000000 in
theorem CH {x p q : aj} {ks : List aj} (wU : x.kids = ks) {kp kq j1 m cap N : Nat} {R : V → Mem → Prop} (MC : x.kids[kp]? = some p) (hkq : x.kids[kq]? = some q) (hpq : kp ≠ kq) (hp : dI E res p) (hq : dI E res q) (want : az) (hn : B.length = N) (h : bU B n c s f w E res j lo hi A C (.bx j1 m cap) x)
 (hR : ∀ v S', lK (match aC E p want with
  | some (y, t) => (aV (aC E q t) t).map fun z => (aP x ((ks.set kp y).set kq z), t)
  | none => none) j lo hi A C (.bx j1 m cap) B T v S' → R v S') :
 af Tryz.prog av (N, T.length) 192 [.code (kF Tryz.f192 10)] (bu 43 [(8, .ptr j1 (kp * 8)), (9, .ptr j1 (kq * 8)), (6, .ptr (N + 1) 0), (5, .ptr N 0), (0, .ptr c 0)]) ⟨B ++ [jt want, mz], T⟩ (Go.Ab.Left ⟨B, T⟩ R) := by
 have gy := h.nl
 obtain ⟨eC, dM, A1, C1, mc, a1, ⟨qc, _⟩, k1, k2, k3⟩ := (h.more (J := [jt want, mz])).nC MC
 have tp := hp want n c s f w _ T j1 eC dM A1 C1 mc k1
 rw [a1] at tp
 unfold aT jt mz at tp
 unfold jt mz
 refine af.go 160 ?_
 simp only [W, seval, ou, hn]
 refine aQ tp ?_
 rintro v _ ⟨B1, rfl, hd, hv⟩
 obtain ⟨t, b, rfl, lD, iM⟩ := mR hv
 have aU := hd.2.1
 have e1 : cm j lo hi B.length B B1 := cm.new.step (k2 _ _ hd.1)
 have f1 := h.pX (k2 _ _ hd.1) (i := N + 1) (by omega) (by simp [hn])
 rw [dx hn] at f1
 simp only [List.getElem?_cons_zero, List.getElem?_cons_succ, mz] at f1
 simp only [List.length_append, List.length_cons, List.length_nil, hn, Nat.zero_add, Nat.reduceAdd] at aU
 have dm : N + 1 < N + 2 := by omega
 unfold aT
 have dQ : N + 1 < B1.length := by omega
 cases b
 ·have hr := iM rfl
  rw [hr] at hR
  refine af.go 160 ?_
  simp only [W, seval, ou, aU]
  refine af.bp 9 [] [N + 2] (by kernel_rfl) (by kernel_rfl) (by kernel_rfl) (by kernel_rfl) (by kernel_rfl) (by kernel_rfl) (by kernel_rfl) ?_
  simp (maxSteps := 4000000) only [W, seval, ou, xw, aU, f1, dm]
  refine af.go 20 ?_
  simp only [W, seval, ou, aU]
  have e2 : ∀ Z J, cm j lo hi B.length B (B1.set (N + 1) Z ++ J) := fun Z J => (e1.jh (by omega)).app
  refine ct (v := ?_) (u := ?_) Tryz.func192 (by rfl) ?_ ?_ ?_
  rotate_left 2
  ·try simp only [W, seval, ou, aU, dm, dQ]
   exact rfl
  ·try simp only [W, seval, ou, aU, dm, dQ]
   exact rfl
  refine an (e2 _ _) ?_
  exact hR _ _ ⟨_, rfl, .none (e2 _ _) rfl, t, rfl⟩
 ·obtain ⟨y, hr⟩ := lD rfl
  rw [hr] at hR hd
  dsimp only at hR
  have mg := k3 B1 y hd
  obtain ⟨LJ, LK, A2, C2, RM, a2, _, q1, q2, q3⟩ := (mg.more (J := [jt t])).nC (k := kq) (y := q) (by rw [aO, List.getElem?_set_ne hpq]; exact hkq)
  have hh := iJ (T := T) hq t q1
  rw [a2] at hh
  unfold aT jt at hh
  refine af.go 160 ?_
  simp only [W, seval, ou, aU]
  refine af.bp 9 [] [N + 2] (by kernel_rfl) (by kernel_rfl) (by kernel_rfl) (by kernel_rfl) (by kernel_rfl) (by kernel_rfl) (by kernel_rfl) ?_
  simp (maxSteps := 4000000) only [W, seval, ou, xw, aU, f1, dm]
  refine cz (pH.ne (T := T) q1 t) hh ?_
  rintro v _ ⟨B2, rfl, dU, rfl⟩
  have ic := dU.2.1
  simp only [List.length_append, List.length_cons, List.length_nil, aU, Nat.zero_add, Nat.reduceAdd] at ic
  have e2 : cm j lo hi B.length B B2 := (e1.app (J := [jt t])).step (q2 _ _ dU.1)
  have g1 : B2[N + 2]? = (B1 ++ [jt t])[N + 2]? := mg.pX (q2 _ _ dU.1) (i := N + 2) (by omega) (by simp [aU])
  have g3 : ∀ Z, (B2.set (N + 1) Z)[N + 2]? = (B1 ++ [jt t])[N + 2]? := fun Z => by rw [List.getElem?_set_ne (by omega)]; exact g1
  have g2 := mg.pX (q2 _ _ dU.1) (i := N + 1) (by omega) (by simp [aU])
  rw [ai (by omega), f1] at g2
  have LL : N + 1 < N + 3 := by omega
  have hN4 : N + 1 < B2.length := by omega
  refine ⟨⟨g1, trivial⟩, ?_⟩
  simp (maxSteps := 4000000) only [W, seval, ou, xw, ic, g2, LL]
  refine ⟨g3 _, g3 _, ?_⟩
  refine af.go 20 ?_
  simp only [W, seval, ou, ic]
  have g4 : ∀ Z, (B2.set (N + 1) Z)[N + 1]? = some Z := fun Z => List.getElem?_set_self hN4
  refine ct (v := ?_) (u := ?_) Tryz.func192 (by rfl) ?_ ?_ ?_
  rotate_left 2
  ·try simp only [W, seval, ou, ic, g4]
   exact rfl
  ·try simp only [W, seval, ou, ic, g4]
   exact rfl
  refine an (e2.jh (by omega)) ?_
  cases hw : aV (aC E q t) t with
  | none =>
   rw [hw] at hR
   exact hR _ _ ⟨_, rfl, .none (e2.jh (by omega)) rfl, t, rfl⟩
  | some z =>
   rw [hw] at dU hR
   have hx2 := q3 B2 z dU
   refine hR _ _ ⟨_, rfl, hx2.fin (e2.jh (by omega)) gy (fun i hi => List.getElem?_set_ne (by omega)) fun u hu => ?_, rfl⟩
   rw [← Option.some.inj hu, aO, eD, wU]
set_option maxHeartbeats 8000000 in
theorem Ah {x a b : aj} (hk : x.kids = [a, b]) (ha : dI E res a) (hb : dI E res b) (yb : a.kind = 5 → a.kids ≠ []) (want : az) (h : bU B n c s f w E res j lo hi A C kv x) : aD Tryz.prog av 192 [.ptr c 0, .ptr j A.length, aT want] ⟨B, T⟩ (lK ((rE (aC E a) (aC E b) (gN a) want).map fun r => (aP x [r.1, r.2.1], r.2.2)) j lo hi A C kv B T) := by
 obtain ⟨N, hn⟩ : ∃ N, B.length = N := ⟨_, rfl⟩
 obtain ⟨al, dA⟩ : ∃ a, A.length = a := ⟨_, rfl⟩
 obtain ⟨X, hX⟩ : ∃ X, A ++ aR x kv ++ C = X := ⟨_, rfl⟩
 obtain ⟨x0, x1, x2, x6, x7, x8, x9, j9, lM⟩ := cI hX.symm dA
 have aA := h.row
 rw [hX] at aA
 have gy := h.nl
 have hj : j < N := by have := h.nb; omega
 have hjN : j ≠ N := by omega
 rw [dA]
 obtain ⟨j1, _, cap, rfl, rfl⟩ := h.bx (by rw [hk]; simp)
 obtain ⟨eC, dM, A1, C1, mc, a1, ⟨qc, _⟩, k1, k2, k3⟩ := h.nC (k := 0) (y := a) (by rw [hk]; rfl)
 obtain ⟨Y, hY⟩ : ∃ Y, A1 ++ aR a mc ++ C1 = Y := ⟨_, rfl⟩
 obtain ⟨y0, y7, y8, y9⟩ := Ag hY.symm (by omega)
 have lu := k1.row
 rw [hY] at lu
 have qc : j1 < N := by omega
 have hlen : x.kids.length = 2 := by rw [hk]; rfl
 have i0 : (0 : Int) < (x.kids.length : Int) := by omega
 have i1 : (1 : Int) < (x.kids.length : Int) := by omega
 unfold aT
 refine YG.go 160 rfl fun bh => ?_
 simp only [eI] at bh
 simp only [W, seval, ou, hn]
 refine af.bp 11 [] [j] (by kernel_rfl) (by kernel_rfl) (by kernel_rfl) (by kernel_rfl) (by kernel_rfl) (by kernel_rfl) (by kernel_rfl) ?_
 simp (maxSteps := 4000000) only [W, seval, ou, xw, ie, hn, hj, aA, x7, i0, i1]
 refine af.go 160 ?_
 simp only [W, seval, ou, hn, qc, lu, y8, y9]
 refine aQ (E0 yb k1.more.own _) ?_
 rintro _ _ ⟨rfl, rfl⟩
 unfold rE
 cases OC : gN a
 ·refine af.go 3 ?_
  simp only [W, seval, ou, hn]
  refine af.fX ?_ (CH hk (kp := 0) (kq := 1) (p := a) (q := b) (by rw [hk]; rfl) (by rw [hk]; rfl) (by decide) ha hb want hn h fun v S' hv => ?_)
  ·skip
   refine ay.env _ ?_
   simp only [cZ, seval]
  ·have e : (match aC E a want with
    | some (y, t) => (aV (aC E b t) t).map fun z => (aP x (([a, b].set 0 y).set 1 z), t)
    | none => none) = Option.map (fun r : aj × aj × az => (aP x [r.1, r.2.1], r.2.2)) (match aC E a want with
    | some (a, t) => Option.map (fun b => (a, b, t)) (aV (aC E b t) t)
    | none => none) := by
    cases aC E a want with
    | none => rfl
    | some p =>
     dsimp only
     cases aV (aC E b p.2) p.2 <;> rfl
   rw [e] at hv
   exact hv
 ·refine af.go 8 ?_
  simp only [W, seval, ou, hn]
  refine af.fX ?_ (CH hk (kp := 1) (kq := 0) (p := b) (q := a) (by rw [hk]; rfl) (by rw [hk]; rfl) (by decide) hb ha want hn h fun v S' hv => ?_)
  ·skip
   refine ay.env _ ?_
   simp only [cZ, seval]
  ·have e : (match aC E b want with
    | some (y, t) => (aV (aC E a t) t).map fun z => (aP x (([a, b].set 1 y).set 0 z), t)
    | none => none) = Option.map (fun r : aj × aj × az => (aP x [r.1, r.2.1], r.2.2)) (match aC E b want with
    | some (b, t) => Option.map (fun a => (a, b, t)) (aV (aC E a t) t)
    | none => none) := by
    cases aC E b want with
    | none => rfl
    | some p =>
     dsimp only
     cases aV (aC E a p.2) p.2 <;> rfl
   rw [e] at hv
   exact hv
end
def lN := by
 have c := aN Tryz.f137 (by conv => lhs; cbv)
 dsimp only [KK, fj, eR, eS, List.map_cons, List.map_nil, List.toList_toArray] at c
 exact c
theorem RN : bK Tryz.prog 137 Tryz.f137 57 := ⟨Tryz.func137, by kernel_rfl⟩
theorem yH : bB Tryz.prog 48 = some ⟨.slice 50, 1, 24, false, [.sl [] .full]⟩ := by kernel_rfl
theorem Ai {B : List (List V)} {l : List aj} {lo hi : Nat} {v : V} (h : fN B l lo hi v) : fE Tryz.prog 48 v = some (.d (.int .i64 (l.length : Int))) := by
 rcases h with ⟨h0, rfl, _⟩ | ⟨_, j, cap, Y, rfl, _⟩
 ·rw [h0, fE.eq_1, yH]; rfl
 ·rw [fE.eq_1, yH]; rfl
theorem wm {α : Type} (ys l : List α) {i : Nat} (h : ys.length = i) : (ys ++ l.drop i)[i]? = l[i]? := by
 rw [List.getElem?_append_right (by omega), h, Nat.sub_self, List.getElem?_drop, Nat.add_zero]
theorem rM {α : Type} (ys l : List α) {i : Nat} (h : ys.length = i) (hi : i < l.length) (z : α) : (ys ++ l.drop i).set i z = (ys ++ [z]) ++ l.drop (i + 1) := by
 rw [List.set_append_right _ _ (by omega), h, Nat.sub_self, List.drop_eq_getElem_cons hi, List.set_cons_zero, List.append_assoc]
 rfl
def caG (r : Option (aj × List az)) (j lo hi : Nat) (A C : List V) (kv : V) (B : List (List V)) (T : List (Nat × Nat)) (v : V) (S' : Mem) : Prop :=
 ∃ B', S' = ⟨B', T⟩ ∧ kJ j lo hi A C kv B B' (r.map Prod.fst) ∧ match r with
  | some (_, ts) => v = .bZ [.d (.sl (ts.map ej)), .d (.bool true)]
  | none => v = .bZ [.d (.sl []), .d (.bool false)]
structure WI where
 i : Nat
 ys : List aj
 B : List (List V)
structure COk (E : bG) (res : List az) (n c s f w j lo hi : Nat) (A C : List V) (kv : V) (x : aj) (N : Nat) (fc : List V) (ts : List az) (r : Option (List aj)) (B : List (List V)) (a : WI) : Prop where
 le : a.i ≤ x.kids.length
 len : a.ys.length = a.i
 MJ : cm j lo hi B.length B a.B
 at' : bU a.B n c s f w E res j lo hi A C kv (aP x (a.ys ++ x.kids.drop a.i))
 fb : a.B[N]? = some fc
 res : (bA E (x.kids.drop a.i) (ts.drop a.i)).map (a.ys ++ ·) = r
theorem rN (x : aj) : aP x x.kids = x := by cases x; rfl
section
variable {E : bG} {res : List az} {n c s f w : Nat} {B : List (List V)} {T : List (Nat × Nat)} {j lo hi : Nat} {A C : List V} {kv : V}
set_option maxHeartbeats 8000000 in
theorem yI {x : aj} (hT : nx E.su E.fu) (hl : ∀ y ∈ x.kids, dI E res y) (h : bU B n c s f w E res j lo hi A C kv x) : aD Tryz.prog av 137 [.ptr c 0, .ptr j A.length] ⟨B, T⟩ (caG (mb E x) j lo hi A C kv B T) := by
 obtain ⟨N, hn⟩ : ∃ N, B.length = N := ⟨_, rfl⟩
 obtain ⟨al, dA⟩ : ∃ a, A.length = a := ⟨_, rfl⟩
 obtain ⟨X, hX⟩ : ∃ X, A ++ aR x kv ++ C = X := ⟨_, rfl⟩
 obtain ⟨x0, x1, x2, x6, x7, x8, x9, j9, lM⟩ := cI hX.symm dA
 have aA := h.row
 rw [hX] at aA
 have gy := h.nl
 have hj : j < N := by have := h.nb; omega
 have wo : c < N := by rw [← hn]; exact h.k.lt.1
 have xk : f < N := by rw [← hn]; exact h.k.lt.2.2.1
 have YI := h.k.f
 have hb := h.k.c
 unfold xF at hb
 have hs := h.k.Gv x.text true [] T
 rw [List.append_nil] at hs
 have E4 := Ai h.own
 rw [fE.eq_1, yH] at E4
 have en : ∀ J, cm j lo hi B.length B (B ++ J) := fun _ => cm.new
 rw [dA]
 unfold mb vX
 cases h1 : fD cR.name E.fu x.text with
 | none =>
  rw [h1] at hs
  simp only [Go.Ab.fW, Option.map_none, S8, if_true] at hs
  refine RN.go 160 rfl fun bh => ?_
  simp only [eI] at bh
  simp only [W, seval, lN, hn]
  refine af.bp 13 [] [c, f, j] (by kernel_rfl) (by kernel_rfl) (by kernel_rfl) (by kernel_rfl) (by kernel_rfl) (by kernel_rfl) (by kernel_rfl) ?_
  simp (maxSteps := 4000000) only [W, seval, lN, xw, nG, hn, wo, hb, hs, xk, YI, hj, aA, x1]
  refine af.go 160 ?_
  simp only [W, seval, lN, hn]
  refine af.bp 13 [] [j] (by kernel_rfl) (by kernel_rfl) (by kernel_rfl) (by kernel_rfl) (by kernel_rfl) (by kernel_rfl) (by kernel_rfl) ?_
  simp (maxSteps := 4000000) only [W, seval, lN, xw, hn, hj, aA, x7]
  refine af.go 160 ?_
  simp only [W, seval, lN, hn]
  refine af.ret Tryz.func137 rfl (an (en _) ?_)
  exact ⟨_, rfl, .none (en _) rfl, rfl⟩
 | some g =>
  rw [h1] at hs
  simp only [Go.Ab.fW, Option.map_some, xD, if_true] at hs
  obtain ⟨Ug, PX, WJ, hp4⟩ := hT.pa g (wh cR.name h1)
  dsimp only
  by_cases hlen : g.params.length = x.kids.length
  case neg =>
   have e1 : decide ((g.params.length : Int) = (x.kids.length : Int)) = false := decide_eq_false (by omega)
   rw [kL E _ _ (by rw [List.length_map]; omega)]
   refine RN.go 160 rfl fun bh => ?_
   simp only [eI] at bh
   simp only [W, seval, lN, hn]
   refine af.bp 13 [] [c, f, j] (by kernel_rfl) (by kernel_rfl) (by kernel_rfl) (by kernel_rfl) (by kernel_rfl) (by kernel_rfl) (by kernel_rfl) ?_
   simp (maxSteps := 4000000) only [W, seval, lN, xw, nG, hn, wo, hb, hs, xk, YI, hj, aA, x1]
   refine af.go 160 ?_
   simp only [W, seval, lN, hn]
   refine af.bp 13 [] [N, j] (by kernel_rfl) (by kernel_rfl) (by kernel_rfl) (by kernel_rfl) (by kernel_rfl) (by kernel_rfl) (by kernel_rfl) ?_
   simp (maxSteps := 4000000) only [W, seval, lN, xw, hn, hj, aA, x7, E4, e1]
   refine af.go 160 ?_
   simp only [W, seval, lN, hn]
   refine af.ret Tryz.func137 rfl (an (en _) ?_)
   exact ⟨_, rfl, .none (en _) rfl, rfl⟩
  have e1 : decide ((g.params.length : Int) = (x.kids.length : Int)) = true := decide_eq_true (by omega)
  refine RN.go 160 rfl fun bh => ?_
  simp only [eI] at bh
  simp only [W, seval, lN, hn]
  refine af.bp 13 [] [c, f, j] (by kernel_rfl) (by kernel_rfl) (by kernel_rfl) (by kernel_rfl) (by kernel_rfl) (by kernel_rfl) (by kernel_rfl) ?_
  simp (maxSteps := 4000000) only [W, seval, lN, xw, nG, hn, wo, hb, hs, xk, YI, hj, aA, x1]
  refine af.go 160 ?_
  simp only [W, seval, lN, hn]
  refine af.bp 13 [] [N, j] (by kernel_rfl) (by kernel_rfl) (by kernel_rfl) (by kernel_rfl) (by kernel_rfl) (by kernel_rfl) (by kernel_rfl) ?_
  simp (maxSteps := 4000000) only [W, seval, lN, xw, hn, hj, aA, x7, E4, e1]
  refine af.go 160 ?_
  simp only [W, seval, lN, hn]
  generalize cw : bA E x.kids (g.params.map bI.type) = r
  refine af.cJ (fun a : WI => (bu 57 [(0, .ptr c 0), (1, .ptr j al), (6, .ptr N 0), (36, .d (.sl (g.params.map gI))), (37, .d (.int .i64 (g.params.length : Int))), (38, .d (.int .i64 (a.i : Int)))], ⟨a.B, T⟩)) (COk E res n c s f w j lo hi A C kv x N [.d (.str g.name), .d (.sl (g.params.map gI)), .d (.sl (g.results.map ej)), .d (.sl (g.body.map dL))] (g.params.map bI.type) r B) (fun a => x.kids.length - a.i) ⟨0, [], B ++ [[.d (.str g.name), .d (.sl (g.params.map gI)), .d (.sl (g.results.map ej)), .d (.sl (g.body.map dL))]]⟩ ⟨Nat.zero_le _, rfl, en _, ?_, ?_, ?_⟩ ?_ rfl ?_
  ·rw [List.drop_zero, List.nil_append, rN]
   exact h.more
  ·rw [cy hn]; rfl
  ·rw [← cw]; simp
  ·skip
   refine ay.env _ ?_
   simp only [cZ, seval]
  rintro ⟨i, ys, Bi⟩ ⟨h2, h3, h4, h5, h6, h7⟩ ih
  dsimp only at h2 h3 h4 h5 h6 h7 ih ⊢
  obtain ⟨Ni, mA⟩ : ∃ Ni, Bi.length = Ni := ⟨_, rfl⟩
  have wq : N < Ni := by rw [← mA]; exact (List.getElem?_eq_some_iff.1 h6).1
  by_cases au : i < x.kids.length
  case neg =>
   have e2 : decide ((i : Int) < (g.params.length : Int)) = false := decide_eq_false (by omega)
   obtain rfl : i = x.kids.length := by omega
   rw [List.drop_eq_nil_of_le (Nat.le_refl _), List.drop_eq_nil_of_le (by rw [List.length_map]; omega)] at h7
   rw [List.drop_eq_nil_of_le (Nat.le_refl _), List.append_nil] at h5
   unfold bA at h7
   rw [Option.map_some, List.append_nil] at h7
   refine af.go 160 ?_
   simp only [W, seval, lN, mA, wq, h6, e2]
   refine af.ret Tryz.func137 rfl (an h4 ?_)
   rw [← h7]
   exact ⟨_, rfl, h5.fin h4 gy (fun _ _ => rfl) fun z hz => (Option.some.inj hz).symm, rfl⟩
  have e2 : decide ((i : Int) < (g.params.length : Int)) = true := decide_eq_true (by omega)
  have nZ := aI ((i : Int) + 1) (by omega)
  have RO : i < g.params.length := by omega
  have hg : (g.params.map gI)[i]? = some (gI g.params[i]) := by simp [RO]
  rw [ot E _ _ i au (by rw [List.length_map]; exact RO), List.getElem_map] at h7
  obtain ⟨y, hy⟩ : ∃ y, x.kids[i] = y := ⟨_, rfl⟩
  have fk := hl x.kids[i] (List.getElem_mem au)
  obtain ⟨p, hp⟩ : ∃ p, g.params[i] = p := ⟨_, rfl⟩
  rw [hp, qq] at hg
  rw [hp, hy] at h7
  rw [hy] at fk
  have lU : (aP x (ys ++ x.kids.drop i)).kids[i]? = some y := by rw [aO, wm _ _ h3, List.getElem?_eq_getElem au, hy]
  obtain ⟨j1, m, cap, rfl, mB⟩ := h5.bx (by rw [aO]; intro h0; rw [h0] at lU; rw [aO] at lU; simp at lU)
  have hm : (i : Int) < (m : Int) := by have := (List.getElem?_eq_some_iff.1 lU).1; omega
  have jP := h5.row
  rw [ji, hX] at jP
  obtain ⟨eC, dM, A1, C1, mc, a1, ⟨qc, tM⟩, k1, k2, k3⟩ := (h5.more (J := [[V.d (.str p.name), .d (.int .i64 p.type.kind), .d (.str p.type.name), .d (.sl (p.type.elem.map ej))]])).nC lU
  have hh := iJ (T := T) fk p.type k1
  rw [a1] at hh
  unfold aT at hh
  have E5 : j < Ni := by omega
  refine af.go 160 ?_
  simp only [W, seval, lN, mA, e2, hg, RO]
  refine af.bp 11 [] [j, Ni] (by kernel_rfl) (by kernel_rfl) (by kernel_rfl) (by kernel_rfl) (by kernel_rfl) (by kernel_rfl) (by kernel_rfl) ?_
  simp (maxSteps := 4000000) only [W, seval, lN, xw, ie, mA, E5, jP, x7, hm]
  refine cz (pH.ne (T := T) k1 p.type) hh ?_
  rintro v _ ⟨B2, rfl, dU, rfl⟩
  have f1 := dU.1.2.1 j (by simp; omega) tM
  have f2 := h5.pX (k2 _ _ dU.1) (i := Ni) (by omega) (by simp [mA])
  have f3 := h5.pX (k2 _ _ dU.1) (i := N) (by omega) (by simp; omega)
  rw [ai (by omega), h6] at f3
  have e3 : cm j lo hi B.length B B2 := h4.app.step (k2 _ _ dU.1)
  refine ⟨⟨f1, f2, trivial⟩, ?_⟩
  simp (maxSteps := 4000000) only [W, seval, lN, xw, mA]
  have f4 := f2
  rw [cy mA] at f4
  refine ⟨⟨f1, f4⟩, ?_⟩
  cases hw : aV (aC E y p.type) p.type with
  | none =>
   rw [hw] at h7
   refine af.go 60 ?_
   simp only [W, seval, lN, Option.isSome_none, Bool.not_false]
   refine af.ret Tryz.func137 rfl (an e3 ?_)
   rw [← h7]
   exact ⟨_, rfl, .none e3 rfl, rfl⟩
  | some z =>
   rw [hw] at h7 dU
   refine af.go 60 ?_
   simp only [W, seval, lN, Option.isSome_some, Bool.not_true, nZ]
   have h8 := k3 B2 z dU
   rw [aO, eD, rM _ _ h3 au] at h8
   refine ih ⟨i + 1, ys ++ [z], B2⟩ ⟨au, by simp [h3], e3, h8, f3, ?_⟩ (by dsimp only; omega) _ _ ?_ rfl
   ·dsimp only at h7 ⊢
    rw [← h7]
    cases bA E (x.kids.drop (i + 1)) ((g.params.map bI.type).drop (i + 1)) <;> simp
   ·skip
    refine ay.env _ ?_
    simp only [cZ, seval]
end
def iO := by
 have c := aN Tryz.f170 (by conv => lhs; cbv)
 dsimp only [KK, fj, eR, eS, List.map_cons, List.map_nil, List.toList_toArray] at c
 exact c
theorem YJ : bK Tryz.prog 170 Tryz.f170 71 := ⟨Tryz.func170, by kernel_rfl⟩
def mS (E : bG) : List aj → List (Option az) → Option (List aj)
 | [], [] => some []
 | x :: l, some t :: ts => (match aV (aC E x t) t with
  | some y => (mS E l ts).map fun l => y :: l
  | none => none)
 | _, _ => none
theorem Gw (E : bG) : ∀ (l : List aj) (fs : List (Option az)), mS E l fs = (fs.mapM id).bind (bA E l)
 | [], [] => by unfold mS; simp [bA]
 | [], f :: fs => by
  unfold mS
  symm
  rw [Option.bind_eq_none_iff]
  intro ts P3
  cases ts with
  | nil =>
   rw [List.mapM_cons] at P3
   cases f with
   | none => cases P3
   | some t =>
    cases h : fs.mapM id with
    | none => rw [h] at P3; cases P3
    | some us => rw [h] at P3; cases P3
  | cons t ts => unfold bA; rfl
 | x :: l, [] => by unfold mS; simp [bA]
 | x :: l, none :: fs => by unfold mS; rw [List.mapM_cons]; rfl
 | x :: l, some t :: fs => by
  unfold mS
  rw [Gw E l fs, List.mapM_cons]
  cases h : fs.mapM id with
  | none =>
   show _ = none
   cases aV (aC E x t) t <;> rfl
  | some us =>
   show _ = bA E (x :: l) (t :: us)
   conv => rhs; unfold bA
   rfl
theorem IX (E : bG) (l : List aj) (fs : List (Option az)) (i : Nat) (h : i < l.length) (h' : i < fs.length) : mS E (l.drop i) (fs.drop i) = match fs[i] with
 | some t => (match aV (aC E l[i] t) t with
  | some y => (mS E (l.drop (i + 1)) (fs.drop (i + 1))).map fun l => y :: l
  | none => none)
 | none => none := by
 rw [List.drop_eq_getElem_cons h, List.drop_eq_getElem_cons h']
 cases fs[i] with
 | none => unfold mS; rfl
 | some t => conv => lhs; unfold mS
theorem EX.ex (r : Option az) : ∃ v, EX r v := by
 cases r <;> exact ⟨_, rfl⟩
structure MOk (E : bG) (res : List az) (n c s f w j lo hi : Nat) (A C : List V) (kv : V) (x : aj) (N : Nat) (fs : List (Option az)) (r : Option (List aj)) (B : List (List V)) (a : WI) : Prop where
 le : a.i ≤ x.kids.length
 len : a.ys.length = a.i
 MJ : cm j lo hi B.length B a.B
 at' : bU a.B n c s f w E res j lo hi A C kv (aP x (a.ys ++ x.kids.drop a.i))
 fb : a.B[N]? = some mz
 res : (mS E (x.kids.drop a.i) (fs.drop a.i)).map (a.ys ++ ·) = r
section
variable {E : bG} {res : List az} {n c s f w : Nat} {B : List (List V)} {T : List (Nat × Nat)} {j lo hi : Nat} {A C : List V} {kv : V}
set_option maxHeartbeats 8000000 in
theorem Gx {x : aj} (hT : nx E.su E.fu) (hx : TW x.type) (hl : ∀ y ∈ x.kids, dI E res y) (hlen : x.kids.length ≤ 60000) (fs : List (Option az)) (DP : fs.length = x.kids.length) (hk : (x.kind = 14 ∧ fs = x.names.map (kD E.su x.type)) ∨ (x.kind ≠ 14 ∧ ∃ e, x.type.elem = [e] ∧ fs = List.replicate x.kids.length (some e))) (h : bU B n c s f w E res j lo hi A C kv x) : aD Tryz.prog av 170 [.ptr c 0, .ptr j A.length] ⟨B, T⟩ (lK (if bP E.su x.type = true then (mS E x.kids fs).map fun l => (aP x l, x.type) else none) j lo hi A C kv B T) := by
 obtain ⟨N, hn⟩ : ∃ N, B.length = N := ⟨_, rfl⟩
 obtain ⟨al, dA⟩ : ∃ a, A.length = a := ⟨_, rfl⟩
 obtain ⟨X, hX⟩ : ∃ X, A ++ aR x kv ++ C = X := ⟨_, rfl⟩
 obtain ⟨x0, x1, x2, x6, x7, x8, x9, j9, lM⟩ := cI hX.symm dA
 have aA := h.row
 rw [hX] at aA
 have gy := h.nl
 have hj : j < N := by have := h.nb; omega
 have jX := fun (J : List (List V)) => yE (T := T) hx (h.k.more J)
 have E4 := Ai h.own
 rw [fE.eq_1, yH] at E4
 have en : ∀ J, cm j lo hi B.length B (B ++ J) := fun _ => cm.new
 rw [dA]
 unfold aT at jX
 unfold jt at lM
 refine YJ.go 160 rfl fun bh => ?_
 simp only [eI] at bh
 simp only [W, seval, iO, hn, hj, aA, j9, lM]
 refine ag (jX _) ?_
 rintro _ _ ⟨rfl, rfl⟩
 cases hs : bP E.su x.type with
 | false =>
  refine af.go 160 ?_
  simp only [W, seval, iO, hn, Bool.not_false]
  refine ag (cH _ _) ?_
  rintro _ _ ⟨rfl, rfl⟩
  refine af.go 160 ?_
  simp only [W, seval, iO, hn, aT]
  refine ct (v := ?_) (u := ?_) Tryz.func170 (by rfl) ?_ ?_ ?_
  rotate_left 2
  ·try simp only [W, seval, iO, hn]
   exact rfl
  ·try simp only [W, seval, iO, hn]
   exact rfl
  refine an (en _) ?_
  exact ⟨_, rfl, .none (en _) rfl, bO, rfl⟩
 | true =>
  rw [if_pos rfl]
  refine af.go 160 ?_
  simp only [W, seval, iO, hn, Bool.not_true, hj, aA, x7, E4]
  generalize cw : mS E x.kids fs = r
  refine af.cJ (fun a : WI => (bu 71 [(0, .ptr c 0), (1, .ptr j al), (4, .ptr N 0), (21, .d (.int .i64 (x.kids.length : Int))), (22, .d (.int .i64 (a.i : Int)))], ⟨a.B, T⟩)) (MOk E res n c s f w j lo hi A C kv x N fs r B) (fun a => x.kids.length - a.i) ⟨0, [], B ++ [mz]⟩ ⟨Nat.zero_le _, rfl, en _, ?_, ?_, ?_⟩ ?_ rfl ?_
  ·rw [List.drop_zero, List.nil_append, rN]
   exact h.more
  ·rw [cy hn]; rfl
  ·rw [← cw]; simp
  ·skip
   refine ay.env _ ?_
   simp only [cZ, seval]
  rintro ⟨i, ys, Bi⟩ ⟨h2, h3, h4, h5, h6, h7⟩ ih
  dsimp only at h2 h3 h4 h5 h6 h7 ih ⊢
  unfold mz at h6
  obtain ⟨Ni, mA⟩ : ∃ Ni, Bi.length = Ni := ⟨_, rfl⟩
  have wq : N < Ni := by rw [← mA]; exact (List.getElem?_eq_some_iff.1 h6).1
  have jP := h5.row
  rw [ji, hX] at jP
  have E5 : j < Ni := by omega
  by_cases au : i < x.kids.length
  case neg =>
   have e2 : decide ((i : Int) < (x.kids.length : Int)) = false := decide_eq_false (by omega)
   obtain rfl : i = x.kids.length := by omega
   rw [List.drop_eq_nil_of_le (Nat.le_refl _), List.drop_eq_nil_of_le (by omega)] at h7
   rw [List.drop_eq_nil_of_le (Nat.le_refl _), List.append_nil] at h5
   unfold mS at h7
   rw [Option.map_some, List.append_nil] at h7
   have dm : N < Bi.length := by omega
   refine af.go 160 ?_
   simp only [W, seval, iO, mA, wq, h6, e2, E5, jP, j9, lM]
   have e3 : ∀ Z, cm j lo hi B.length B (Bi.set N Z) := fun Z => h4.jh (by omega)
   refine ct (v := ?_) (u := ?_) Tryz.func170 (by rfl) ?_ ?_ ?_
   rotate_left 2
   ·try simp only [W, seval, iO, dm, mz]
    exact rfl
   ·try simp only [W, seval, iO, dm, mz]
    exact rfl
   refine an (e3 _) ?_
   rw [← h7]
   exact ⟨_, rfl, h5.fin (e3 _) gy (fun i hi => List.getElem?_set_ne (by omega)) fun z hz => (Option.some.inj hz).symm, rfl⟩
  have e2 : decide ((i : Int) < (x.kids.length : Int)) = true := decide_eq_true (by omega)
  have nZ := aI ((i : Int) + 1) (by omega)
  rw [IX E _ _ i au (by omega)] at h7
  have hio : i < fs.length := by omega
  obtain ⟨o, ho⟩ : ∃ o, fs[i] = o := ⟨_, rfl⟩
  obtain ⟨y, hy⟩ : ∃ y, x.kids[i] = y := ⟨_, rfl⟩
  have fk := hl x.kids[i] (List.getElem_mem au)
  rw [hy] at fk
  rw [ho, hy] at h7
  have lU : (aP x (ys ++ x.kids.drop i)).kids[i]? = some y := by rw [aO, wm _ _ h3, List.getElem?_eq_getElem au, hy]
  obtain ⟨j1, m, cap, rfl, mB⟩ := h5.bx (by rw [aO]; intro h0; rw [h0] at lU; rw [aO] at lU; simp at lU)
  have hm : (i : Int) < (m : Int) := by have := (List.getElem?_eq_some_iff.1 lU).1; omega
  have tail : ∀ t : az, o = some t → af Tryz.prog av (N, T.length) 170 [.code (.region 11 (opsOf (kF Tryz.f170 36)) true), .code (kF Tryz.f170 37), .inBlock 1, .code (kF Tryz.f170 42), .inLoop (kF Tryz.f170 15), .inBlock 0, .code (kF Tryz.f170 43)] (bu 71 [(0, .ptr c 0), (1, .ptr j al), (4, .ptr N 0), (6, .d (.int .i64 (i : Int))), (7, .ptr Ni 0), (8, .d (.bool true)), (21, .d (.int .i64 (x.kids.length : Int))), (22, .d (.int .i64 (i : Int)))]) ⟨Bi ++ [[.d (.int .i64 t.kind), .d (.str t.name), .d (.sl (t.elem.map ej))]], T⟩ (Go.Ab.Left ⟨B, T⟩ (lK (r.map fun l => (aP x l, x.type)) j lo hi A C (.bx j1 m cap) B T)) := by
   rintro t rfl
   dsimp only at h7
   obtain ⟨eC, dM, A1, C1, mc, a1, ⟨qc, tM⟩, k1, k2, k3⟩ := (h5.more (J := [[V.d (.int .i64 t.kind), .d (.str t.name), .d (.sl (t.elem.map ej))]])).nC lU
   have hh := iJ (T := T) fk t k1
   rw [a1] at hh
   unfold aT at hh
   refine af.bp 14 [] [j, Ni] (by kernel_rfl) (by kernel_rfl) (by kernel_rfl) (by kernel_rfl) (by kernel_rfl) (by kernel_rfl) (by kernel_rfl) ?_
   simp (maxSteps := 4000000) only [W, seval, iO, xw, ie, mA, E5, jP, x7, hm]
   refine cz (pH.ne (T := T) k1 t) hh ?_
   rintro v _ ⟨B2, rfl, dU, rfl⟩
   have f1 := dU.1.2.1 j (by simp; omega) tM
   have f2 := h5.pX (k2 _ _ dU.1) (i := Ni) (by omega) (by simp [mA])
   have f3 := h5.pX (k2 _ _ dU.1) (i := N) (by omega) (by simp; omega)
   rw [ai (by omega), h6] at f3
   have e3 : cm j lo hi B.length B B2 := h4.app.step (k2 _ _ dU.1)
   have ic := dU.2.1
   have dQ : N < B2.length := (List.getElem?_eq_some_iff.1 f3).1
   have f4 := f2
   rw [cy mA] at f4
   refine ⟨⟨f1, f2, trivial⟩, ?_⟩
   simp (maxSteps := 4000000) only [W, seval, iO, xw, mA]
   refine ⟨⟨f1, f4⟩, ?_⟩
   cases hw : aV (aC E y t) t with
   | none =>
    rw [hw] at h7
    refine af.go 60 ?_
    simp only [W, seval, iO, Option.isSome_none, Bool.not_false]
    refine ag (cH _ _) ?_
    rintro _ _ ⟨rfl, rfl⟩
    refine af.go 60 ?_
    simp only [W, seval, iO, dQ, f3, aT]
    have e4 : ∀ Z, cm j lo hi B.length B (B2.set N Z) := fun Z => e3.jh (by omega)
    refine ct (v := ?_) (u := ?_) Tryz.func170 (by rfl) ?_ ?_ ?_
    rotate_left 2
    ·try simp only [W, seval, iO, dQ]
     exact rfl
    ·try simp only [W, seval, iO, dQ]
     exact rfl
    refine an (e4 _) ?_
    rw [← h7]
    exact ⟨_, rfl, .none (e4 _) rfl, bO, rfl⟩
   | some z =>
    rw [hw] at h7 dU
    refine af.go 60 ?_
    simp only [W, seval, iO, Option.isSome_some, Bool.not_true, nZ]
    have h8 := k3 B2 z dU
    rw [aO, eD, rM _ _ h3 au] at h8
    refine ih ⟨i + 1, ys ++ [z], B2⟩ ⟨au, by simp [h3], e3, h8, f3, ?_⟩ (by dsimp only; omega) _ _ ?_ rfl
    ·dsimp only at h7 ⊢
     rw [← h7]
     cases mS E (x.kids.drop (i + 1)) (fs.drop (i + 1)) <;> simp
    ·skip
     refine ay.env _ ?_
     simp only [cZ, seval]
  rcases hk with ⟨Il, rfl⟩ | ⟨Il, e, he, rfl⟩
  ·have YK := decide_eq_true Il
   have FQ : i < x.names.length := by rw [List.length_map] at DP; omega
   have lO : (i : Int) < ((gu x.names).length : Int) := by rw [fZ]; omega
   have hgn : x.names[i]? = some x.names[i] := List.getElem?_eq_getElem FQ
   have S9 := fun J Z => CG (T := T) hT x.type x.names[i] ((h5.k.more J).more Z)
   rw [List.getElem_map] at ho
   rw [ho] at S9
   unfold aT at S9
   refine af.go 160 ?_
   simp only [W, seval, iO, mA, wq, h6, e2, E5, jP, x0, j9, lM, YK]
   refine af.bp 13 [] [j, Ni] (by kernel_rfl) (by kernel_rfl) (by kernel_rfl) (by kernel_rfl) (by kernel_rfl) (by kernel_rfl) (by kernel_rfl) ?_
   simp (maxSteps := 4000000) only [W, seval, iO, xw, mA, E5, jP, x6, FQ, hgn]
   refine vt (EX.ex o) (fun Z => S9 _ Z) ?_
   intro v hv
   refine ⟨kA _ _, ?_⟩
   cases o with
   | none =>
    obtain rfl : v = _ := hv
    unfold aT
    simp (maxSteps := 4000000) only [W, seval, iO, xw, mA]
    refine af.go 160 ?_
    simp only [W, seval, iO, mA]
    refine af.bp 14 [] [] (by kernel_rfl) (by kernel_rfl) (by kernel_rfl) (by kernel_rfl) (by kernel_rfl) (by kernel_rfl) (by kernel_rfl) ?_
    simp (maxSteps := 4000000) only [W, seval, iO, xw, mA]
    refine af.go 60 ?_
    simp only [W, seval, iO]
    refine ag (cH _ _) ?_
    rintro _ _ ⟨rfl, rfl⟩
    have dQ : N < Bi.length := by omega
    refine af.go 60 ?_
    simp only [W, seval, iO, wq, mA, h6, aT]
    have e4 : ∀ Z J, cm j lo hi B.length B (Bi.set N Z ++ J) := fun Z J => (h4.jh (by omega)).app
    have SH : ∀ Z, (Bi.set N Z)[N]? = some Z := fun Z => List.getElem?_set_self dQ
    refine ct (v := ?_) (u := ?_) Tryz.func170 (by rfl) ?_ ?_ ?_
    rotate_left 2
    ·try simp only [W, seval, iO, dQ, wq, mA, SH]
     exact rfl
    ·try simp only [W, seval, iO, dQ, wq, mA, SH]
     exact rfl
    refine an (e4 _ _) ?_
    rw [← h7]
    exact ⟨_, rfl, .none (e4 _ _) rfl, bO, rfl⟩
   | some t =>
    obtain rfl : v = _ := hv
    unfold aT
    simp (maxSteps := 4000000) only [W, seval, iO, xw, mA]
    refine af.go 160 ?_
    simp only [W, seval, iO, mA]
    refine af.fX ?_ (tail t rfl)
    refine ay.env _ ?_
    simp only [cZ, seval]
  ·have YK := decide_eq_false Il
   refine af.go 160 ?_
   simp only [W, seval, iO, mA, wq, h6, e2, E5, jP, x0, j9, lM, YK, he, bH, bX, cO]
   refine af.fX ?_ (tail e (by rw [← ho, List.getElem_replicate]))
   refine ay.env _ ?_
   simp only [cZ, seval]
end
def dV := by
 have c := aN Tryz.f169 (by conv => lhs; cbv)
 dsimp only [KK, fj, eR, eS, List.map_cons, List.map_nil, List.toList_toArray] at c
 exact c
theorem U3 : bK Tryz.prog 169 Tryz.f169 89 := ⟨Tryz.func169, by kernel_rfl⟩
section
variable {E : bG} {res : List az} {n c s f w : Nat} {B : List (List V)} {T : List (Nat × Nat)} {j lo hi : Nat} {A C : List V} {kv : V}
theorem IY {y : aj} (hx : dI E res y) (k1 : bU B n c s f w E res j lo hi A C kv y) (want : az) {q : Nat} (a1 : A.length = q) {AA L : List Nat} {S0 : Mem} {next : gj} {d : Option Tmp} {env : List V}
 (hk : ∀ B1 t b, kJ j lo hi A C kv B B1 ((aC E y want).map Prod.fst) → B1.length = B.length → (b = true → ∃ z, aC E y want = some (z, t)) → (b = false → aC E y want = none) → eu L S0 ⟨B1, T⟩ ∧ next (aK env d (.bZ [aT t, .d (.bool b)])) ⟨B1, T⟩) :
 tB Tryz.prog av AA L S0 next (.func 135 [] []) [.ptr c 0, .ptr j q, aT want] d env ⟨B, T⟩ := by
 subst a1
 refine KL (lK.ne (T := T) k1 want) (fun v S' hq => ?_) (fun Z => ((hx want n c s f w (B ++ Z) T j lo hi A C kv k1.more).mono ?_)) ?_
 ·obtain ⟨B', rfl, hd, _⟩ := hq
  exact hd.2.1
 ·rintro v S' ⟨B', rfl, hd, hv⟩
  obtain ⟨e1, e2⟩ := k1.U2 hd
  exact ⟨⟨B'.take B.length, T⟩, by rw [KB, ← e1], _, rfl, e2, hv⟩
 ·rintro v _ ⟨B1, rfl, hd, hv⟩
  obtain ⟨t, b, rfl, lD, iM⟩ := mR hv
  exact hk B1 t b hd hd.2.1 lD iM
set_option maxHeartbeats 8000000 in
theorem mT {x a : aj} {rest : List aj} {N al : Nat} (hk : x.kids = a :: rest) (ha : dI E res a) (OD : ∀ w y t, aC E a w = some (y, t) → TW t) (want w' : az) (hw : w' = if x.kind = 13 then want else bO) (hn : B.length = N) (dA : A.length = al) (h : bU B n c s f w E res j lo hi A C kv x) {R : V → Mem → Prop}
 (h0 : (∀ y t, aC E a w' = some (y, t) → t.kind ≠ 8) → ∀ v B', kJ j lo hi A C kv B B' none → (∃ t, v = .bZ [aT t, .d (.bool false)]) → R v ⟨B', T⟩)
 (h1 : ∀ B1 y t e, aC E a w' = some (y, t) → t.kind = 8 → t.elem = [e] → B1.length = N + 2 → cm j lo hi B.length B B1 → bU B1 n c s f w E res j lo hi A C kv (aP x (y :: rest)) → B1[N + 1]? = some mz →
  af Tryz.prog av (N, T.length) 169 [.code (kF Tryz.f169 19), .code (kF Tryz.f169 41)] (bu 89 [(0, .ptr c 0), (1, .ptr j al), (6, .ptr (N + 1) 0), (8, .ptr (N + 2) 0)]) ⟨B1 ++ [jt t], T⟩ (Go.Ab.Left ⟨B, T⟩ R)) :
 aD Tryz.prog av 169 [.ptr c 0, .ptr j al, aT want] ⟨B, T⟩ R := by
 obtain ⟨X, hX⟩ : ∃ X, A ++ aR x kv ++ C = X := ⟨_, rfl⟩
 obtain ⟨x0, x1, x2, x6, x7, x8, x9, j9, lM⟩ := cI hX.symm dA
 have aA := h.row
 rw [hX] at aA
 have gy := h.nl
 have hj : j < N := by have := h.nb; omega
 obtain ⟨j1, m, cap, rfl, mB⟩ := h.bx (by rw [hk]; simp)
 have hm : (0 : Int) < (m : Int) := by rw [mB, hk]; simp
 obtain ⟨eC, dM, A1, C1, mc, a1, ⟨qc, tM⟩, k1, k2, k3⟩ := (h.more (J := [jt w', mz])).nC (k := 0) (y := a) (by rw [hk]; rfl)
 rw [Nat.zero_mul] at a1
 have main : ∀ B1 t b, kJ j1 eC dM A1 C1 mc (B ++ [jt w', mz]) B1 ((aC E a w').map Prod.fst) → B1.length = (B ++ [jt w', mz]).length → (b = true → ∃ z, aC E a w' = some (z, t)) → (b = false → aC E a w' = none) → af Tryz.prog av (N, T.length) 169 [.code (kF Tryz.f169 10)] (bu 89 [(0, .ptr c 0), (1, .ptr j al), (6, .ptr (N + 1) 0), (8, .ptr (N + 2) 0), (9, .d (.bool b))]) ⟨B1 ++ [jt t], T⟩ (Go.Ab.Left ⟨B, T⟩ R) := by
  intro B1 t b hd aU lD iM
  have e1 : cm j lo hi B.length B B1 := cm.new.step (k2 _ _ hd.1)
  have f1 := h.pX (k2 _ _ hd.1) (i := N + 1) (by omega) (by simp [hn])
  rw [dx hn] at f1
  simp only [List.getElem?_cons_zero, List.getElem?_cons_succ] at f1
  have YL := f1
  unfold mz at YL
  simp only [List.length_append, List.length_cons, List.length_nil, hn, Nat.zero_add, Nat.reduceAdd] at aU
  have dm : N + 1 < N + 2 := by omega
  have dQ : N + 1 < B1.length := by omega
  have e2 : ∀ Z J, cm j lo hi B.length B (B1.set (N + 1) Z ++ J) := fun Z J => (e1.jh (by omega)).app
  have g4 : ∀ Z, (B1.set (N + 1) Z)[N + 1]? = some Z := fun Z => List.getElem?_set_self dQ
  unfold jt
  cases b
  ·refine af.go 160 ?_
   simp only [W, seval, dV, aU, Bool.not_false]
   refine ag (cH _ _) ?_
   rintro _ _ ⟨rfl, rfl⟩
   refine af.go 160 ?_
   simp only [W, seval, dV, aU, YL, dm, aT]
   refine ct (v := ?_) (u := ?_) Tryz.func169 (by rfl) ?_ ?_ ?_
   rotate_left 2
   ·try simp only [W, seval, dV, aU, dm, dQ, g4]
    exact rfl
   ·try simp only [W, seval, dV, aU, dm, dQ, g4]
    exact rfl
   refine an (e2 _ _) ?_
   exact h0 (fun y t hr => by rw [iM rfl] at hr; cases hr) _ _ (.none (e2 _ _) rfl) ⟨bO, rfl⟩
  ·obtain ⟨y, hr⟩ := lD rfl
   by_cases h8 : t.kind = 8
   case neg =>
    have e8 := decide_eq_false h8
    refine af.go 160 ?_
    simp only [W, seval, dV, aU, e8, Bool.not_true, Bool.not_false]
    refine ag (cH _ _) ?_
    rintro _ _ ⟨rfl, rfl⟩
    refine af.go 160 ?_
    simp only [W, seval, dV, aU, YL, dm, aT]
    refine ct (v := ?_) (u := ?_) Tryz.func169 (by rfl) ?_ ?_ ?_
    rotate_left 2
    ·try simp only [W, seval, dV, aU, dm, dQ, g4]
     exact rfl
    ·try simp only [W, seval, dV, aU, dm, dQ, g4]
     exact rfl
    refine an (e2 _ _) ?_
    exact h0 (fun y' t' PC => by rw [hr] at PC; rw [← (Prod.mk.inj (Option.some.inj PC)).2]; exact h8) _ _ (.none (e2 _ _) rfl) ⟨bO, rfl⟩
   have e8 := decide_eq_true h8
   have ht := OD _ _ _ hr
   obtain ⟨e, he⟩ : ∃ e, t.elem = [e] := by
    cases ht with
    | leaf k _ _ hk => exact absurd h8 hk
    | sl n u _ => exact ⟨u, rfl⟩
   rw [hr] at hd
   have mg := k3 B1 y hd
   rw [hk] at mg
   have tail := h1 B1 y t e hr h8 he aU e1 mg f1
   unfold jt at tail
   refine af.go 14 ?_
   simp only [W, seval, dV, aU, e8, Bool.not_true, Bool.not_false]
   refine af.fX ?_ tail
   refine ay.env _ ?_
   simp only [cZ, seval]
 by_cases Ta : x.kind = 13
 ·have YM := decide_eq_true Ta
  rw [if_pos Ta] at hw
  subst hw
  unfold aT
  refine U3.go 160 rfl fun bh => ?_
  simp only [eI] at bh
  simp only [W, seval, dV, hn, hj, aA, x0, YM, Bool.not_true]
  refine af.bp 12 [11] [j, N] (by kernel_rfl) (by kernel_rfl) (by kernel_rfl) (by kernel_rfl) (by kernel_rfl) (by kernel_rfl) (by kernel_rfl) ?_
  simp (maxSteps := 4000000) only [W, seval, dV, xw, ie, hn, hj, aA, x7, hm]
  refine IY ha k1 w' a1 ?_
  intro B1 t b hd aU lD iM
  have m1 := main B1 t b hd aU lD iM
  have g1 := hd.1.2.1 j (by simp; omega) tM
  have g2 := h.pX (k2 _ _ hd.1) (i := N) (by omega) (by simp [hn])
  simp only [List.length_append, List.length_cons, List.length_nil, hn, Nat.zero_add, Nat.reduceAdd] at aU
  refine ⟨⟨g1, g2, trivial⟩, ?_⟩
  unfold aT
  simp (maxSteps := 4000000) only [W, seval, dV, xw, aU]
  refine ⟨⟨g1, g2⟩, ?_⟩
  refine af.fX ?_ m1
  refine ay.env _ ?_
  simp only [cZ, seval]
 ·have YM := decide_eq_false Ta
  rw [if_neg Ta] at hw
  subst hw
  unfold aT
  refine U3.go 160 rfl fun bh => ?_
  simp only [eI] at bh
  simp only [W, seval, dV, hn, hj, aA, x0, YM, Bool.not_false]
  refine ag (cH _ _) ?_
  rintro _ _ ⟨rfl, rfl⟩
  unfold aT
  refine af.go 160 ?_
  simp only [W, seval, dV, hn]
  refine af.bp 12 [11] [j, N] (by kernel_rfl) (by kernel_rfl) (by kernel_rfl) (by kernel_rfl) (by kernel_rfl) (by kernel_rfl) (by kernel_rfl) ?_
  simp (maxSteps := 4000000) only [W, seval, dV, xw, ie, hn, hj, aA, x7, hm]
  refine IY ha k1 bO a1 ?_
  intro B1 t b hd aU lD iM
  have m1 := main B1 t b hd aU lD iM
  have g1 := hd.1.2.1 j (by simp; omega) tM
  have g2 := h.pX (k2 _ _ hd.1) (i := N) (by omega) (by simp [hn])
  simp only [List.length_append, List.length_cons, List.length_nil, hn, Nat.zero_add, Nat.reduceAdd] at aU
  refine ⟨⟨g1, g2, trivial⟩, ?_⟩
  unfold aT
  simp (maxSteps := 4000000) only [W, seval, dV, xw, aU]
  refine ⟨⟨g1, g2⟩, ?_⟩
  refine af.fX ?_ m1
  refine ay.env _ ?_
  simp only [cZ, seval]
end
theorem rO {t e : az} (h : t.kind = 8) (he : t.elem = [e]) : gm t = some e := by
 unfold gm
 rw [if_pos h, he]; rfl
def CI (t e : az) : List V := [.d (.int .i64 t.kind), .d (.str t.name), .d (.sl [[.int .i64 e.kind, .str e.name, .sl (e.elem.map ej)]])]
theorem LM {t e : az} (he : t.elem = [e]) : jt t = CI t e := by
 unfold jt CI
 rw [he, List.map_cons, List.map_nil, cO]
theorem rP {t : az} (h : t.kind ≠ 8) : gm t = none := if_neg h
theorem Aj (g : aj → az → Option (aj × az)) (hg : ∀ y t, t.kind ≠ 8 → g y t = none) : ∀ r : Option (aj × az), (∀ y t, r = some (y, t) → t.kind ≠ 8) → (match r with
 | some (a, t) => g a t
 | none => none) = none
 | none, _ => rfl
 | some p, h => hg _ _ (h p.1 p.2 rfl)
section
variable {E : bG} {res : List az} {n c s f w : Nat} {B : List (List V)} {T : List (Nat × Nat)} {j lo hi : Nat} {A C : List V} {kv : V}
set_option maxHeartbeats 8000000 in
theorem OE {x a : aj} (TJ : x.kind = 12) (hk : x.kids = [a]) (ha : dI E res a) (OD : ∀ w y t, aC E a w = some (y, t) → TW t) (want : az) (h : bU B n c s f w E res j lo hi A C kv x) : aD Tryz.prog av 169 [.ptr c 0, .ptr j A.length, aT want] ⟨B, T⟩ (lK (match aC E a bO with
 | some (a, t) => (gm t).map fun _ => (aP x [a], bS)
 | none => none) j lo hi A C kv B T) := by
 obtain ⟨N, hn⟩ : ∃ N, B.length = N := ⟨_, rfl⟩
 obtain ⟨al, dA⟩ : ∃ a, A.length = a := ⟨_, rfl⟩
 have gy := h.nl
 have YN := h.nb
 rw [dA]
 refine mT hk ha OD want bO (by rw [if_neg (by omega)]) hn dA h (fun h0 v B' hd hv => ?_) fun B1 y t e hr h8 he aU e1 mg f1 => ?_
 ·have e0 := Aj (fun a t => (gm t).map fun _ => (aP x [a], bS)) (fun y t h => by rw [rP h]; rfl) _ h0
  rw [e0]
  exact ⟨B', rfl, hd, hv⟩
 rw [hr]
 dsimp only
 rw [rO h8 he]
 obtain ⟨X, hX⟩ : ∃ X, A ++ aR x kv ++ C = X := ⟨_, rfl⟩
 obtain ⟨x0, x1, x2, x6, x7, x8, x9, j9, lM⟩ := cI hX.symm dA
 have aA := mg.row
 rw [ji, hX] at aA
 have hj : j < N + 2 := by omega
 have dm : N + 1 < N + 2 := by omega
 have dQ : N + 1 < B1.length := by omega
 have e2 : ∀ Z J, cm j lo hi B.length B (B1.set (N + 1) Z ++ J) := fun Z J => (e1.jh (by omega)).app
 have g4 : ∀ Z, (B1.set (N + 1) Z)[N + 1]? = some Z := fun Z => List.getElem?_set_self dQ
 have RP := decide_eq_true TJ
 unfold jt mz at *
 refine af.go 160 ?_
 simp only [W, seval, dV, aU, hj, aA, x0, RP]
 refine ag (rJ _ _) ?_
 rintro _ _ ⟨rfl, rfl⟩
 refine af.go 160 ?_
 simp only [W, seval, dV, aU, f1, dm, aT]
 refine ct (v := ?_) (u := ?_) Tryz.func169 (by rfl) ?_ ?_ ?_
 rotate_left 2
 ·try simp only [W, seval, dV, aU, dm, dQ, g4]
  exact rfl
 ·try simp only [W, seval, dV, aU, dm, dQ, g4]
  exact rfl
 refine an (e2 _ _) ?_
 exact ⟨_, rfl, mg.fin (e2 _ _) gy (fun i hi => by rw [ai (by rw [List.length_set]; omega), List.getElem?_set_ne (by omega)]) fun z hz => (Option.some.inj hz).symm, rfl⟩
set_option maxHeartbeats 8000000 in
theorem OF {x a b : aj} (AL : x.kind = 10) (hk : x.kids = [a, b]) (ha : dI E res a) (hb : dI E res b) (OD : ∀ w y t, aC E a w = some (y, t) → TW t) (want : az) (h : bU B n c s f w E res j lo hi A C kv x) : aD Tryz.prog av 169 [.ptr c 0, .ptr j A.length, aT want] ⟨B, T⟩ (lK (match aC E a bO with
 | some (a, t) => (gm t).bind fun e => (aV (aC E b bS) bS).map fun b => (aP x [a, b], e)
 | none => none) j lo hi A C kv B T) := by
 obtain ⟨N, hn⟩ : ∃ N, B.length = N := ⟨_, rfl⟩
 obtain ⟨al, dA⟩ : ∃ a, A.length = a := ⟨_, rfl⟩
 have gy := h.nl
 have YN := h.nb
 rw [dA]
 refine mT hk ha OD want bO (by rw [if_neg (by omega)]) hn dA h (fun h0 v B' hd hv => ?_) fun B1 y t e hr h8 he aU e1 mg f1 => ?_
 ·have e0 := Aj (fun a t => (gm t).bind fun e => (aV (aC E b bS) bS).map fun b => (aP x [a, b], e)) (fun y t h => by rw [rP h]; rfl) _ h0
  rw [e0]
  exact ⟨B', rfl, hd, hv⟩
 rw [hr]
 dsimp only
 rw [rO h8 he, Option.bind_some]
 obtain ⟨X, hX⟩ : ∃ X, A ++ aR x kv ++ C = X := ⟨_, rfl⟩
 obtain ⟨x0, x1, x2, x6, x7, x8, x9, j9, lM⟩ := cI hX.symm dA
 have aA := mg.row
 rw [ji, hX] at aA
 have hj : j < N + 2 := by omega
 have dm : N + 1 < N + 2 := by omega
 have OG := decide_eq_true AL
 have RP : decide (x.kind = 12) = false := decide_eq_false (by omega)
 obtain ⟨j1, m, cap, rfl, mB⟩ := mg.bx (by rw [aO]; simp)
 rw [aO] at mB
 have i1 : (1 : Int) < (m : Int) := by rw [mB]; simp
 obtain ⟨LJ, LK, A2, C2, RM, a2, ⟨qc, tM⟩, q1, q2, q3⟩ := (mg.more (J := [CI t e])).nC (k := 1) (y := b) (by rw [aO]; rfl)
 have hh := iJ (T := T) hb bS q1
 have a2 : A2.length = 8 := by omega
 rw [a2] at hh
 have bV := pH.ne (T := T) q1 bS
 have key : ∀ B2, kJ j1 LJ LK A2 C2 RM (B1 ++ [CI t e]) B2 (aV (aC E b bS) bS) → B2[j]? = (B1 ++ [CI t e])[j]? ∧ B2[N + 2]? = (B1 ++ [CI t e])[N + 2]? ∧ B2[N + 1]? = some mz ∧ B2.length = N + 3 ∧ cm j lo hi B.length B B2 := by
  intro B2 dU
  have ic := dU.2.1
  simp only [List.length_append, List.length_cons, List.length_nil, aU, Nat.zero_add, Nat.reduceAdd] at ic
  have g2 := mg.pX (q2 _ _ dU.1) (i := N + 1) (by omega) (by simp [aU])
  rw [ai (by omega), f1] at g2
  exact ⟨dU.1.2.1 j (by simp; omega) tM, mg.pX (q2 _ _ dU.1) (i := N + 2) (by omega) (by simp [aU]), g2, ic, e1.app.step (q2 _ _ dU.1)⟩
 rw [LM he]
 unfold CI at *
 unfold aT at hh
 refine af.go 160 ?_
 simp only [W, seval, dV, aU, hj, aA, x0, RP, OG]
 refine af.bp 13 [] [N + 2, j] (by kernel_rfl) (by kernel_rfl) (by kernel_rfl) (by kernel_rfl) (by kernel_rfl) (by kernel_rfl) (by kernel_rfl) ?_
 simp (maxSteps := 4000000) only [W, seval, dV, xw, ie, aU, hj, aA, x7, i1, he, bH, bX, cO]
 refine bf (fun Z => rJ _ _) ?_
 simp (maxSteps := 4000000) only [W, seval, dV, xw, aU, aT]
 refine cz bV hh ?_
 rintro v _ ⟨B2, rfl, dU, rfl⟩
 obtain ⟨g1, g2, g3, ic, e3⟩ := key B2 dU
 unfold mz at g3
 have dQ : N + 1 < B2.length := by omega
 have LL : N + 1 < N + 3 := by omega
 have e4 : ∀ Z, cm j lo hi B.length B (B2.set (N + 1) Z) := fun Z => e3.jh (by omega)
 have g4 : ∀ Z, (B2.set (N + 1) Z)[N + 1]? = some Z := fun Z => List.getElem?_set_self dQ
 have g5 : ∀ Z, (B2.set (N + 1) Z)[N + 2]? = B2[N + 2]? := fun Z => List.getElem?_set_ne (by omega)
 have g6 : ∀ Z, (B2.set (N + 1) Z)[j]? = B2[j]? := fun Z => List.getElem?_set_ne (by omega)
 refine ⟨⟨g2, g1, trivial⟩, ?_⟩
 simp (maxSteps := 4000000) only [W, seval, dV, xw, ic, g3, LL]
 refine ⟨⟨(g5 _).trans g2, (g6 _).trans g1⟩, ⟨(g5 _).trans g2, (g6 _).trans g1⟩, ?_⟩
 refine af.go 20 ?_
 simp only [W, seval, dV, ic]
 refine ct (v := ?_) (u := ?_) Tryz.func169 (by rfl) ?_ ?_ ?_
 rotate_left 2
 ·try simp only [W, seval, dV, ic, g4]
  exact rfl
 ·try simp only [W, seval, dV, ic, g4]
  exact rfl
 refine an (e4 _) ?_
 cases hw : aV (aC E b bS) bS with
 | none => exact ⟨_, rfl, .none (e4 _) rfl, e, rfl⟩
 | some z =>
  rw [hw] at dU
  have h9 := q3 B2 z dU
  rw [aO, eD] at h9
  exact ⟨_, rfl, h9.fin (e4 _) gy (fun i hi => List.getElem?_set_ne (by omega)) fun u hu => (Option.some.inj hu).symm, rfl⟩
set_option maxHeartbeats 8000000 in
theorem OH {x a b : aj} (Ta : x.kind = 13) (hk : x.kids = [a, b]) (ha : dI E res a) (hb : dI E res b) (OD : ∀ w y t, aC E a w = some (y, t) → TW t) (want : az) (h : bU B n c s f w E res j lo hi A C kv x) : aD Tryz.prog av 169 [.ptr c 0, .ptr j A.length, aT want] ⟨B, T⟩ (lK (match aC E a want with
 | some (a, t) => (gm t).bind fun e => (aV (aC E b e) e).map fun b => (aP x [a, b], t)
 | none => none) j lo hi A C kv B T) := by
 obtain ⟨N, hn⟩ : ∃ N, B.length = N := ⟨_, rfl⟩
 obtain ⟨al, dA⟩ : ∃ a, A.length = a := ⟨_, rfl⟩
 have gy := h.nl
 have YN := h.nb
 rw [dA]
 refine mT hk ha OD want want (by rw [if_pos Ta]) hn dA h (fun h0 v B' hd hv => ?_) fun B1 y t e hr h8 he aU e1 mg f1 => ?_
 ·have e0 := Aj (fun a t => (gm t).bind fun e => (aV (aC E b e) e).map fun b => (aP x [a, b], t)) (fun y t h => by rw [rP h]; rfl) _ h0
  rw [e0]
  exact ⟨B', rfl, hd, hv⟩
 rw [hr]
 dsimp only
 rw [rO h8 he, Option.bind_some]
 obtain ⟨X, hX⟩ : ∃ X, A ++ aR x kv ++ C = X := ⟨_, rfl⟩
 obtain ⟨x0, x1, x2, x6, x7, x8, x9, j9, lM⟩ := cI hX.symm dA
 have aA := mg.row
 rw [ji, hX] at aA
 have hj : j < N + 2 := by omega
 have dm : N + 1 < N + 2 := by omega
 have OG : decide (x.kind = 10) = false := decide_eq_false (by omega)
 have RQ : decide (x.kind = 11) = false := decide_eq_false (by omega)
 have RP : decide (x.kind = 12) = false := decide_eq_false (by omega)
 obtain ⟨j1, m, cap, rfl, mB⟩ := mg.bx (by rw [aO]; simp)
 rw [aO] at mB
 have i1 : (1 : Int) < (m : Int) := by rw [mB]; simp
 obtain ⟨LJ, LK, A2, C2, RM, a2, ⟨qc, tM⟩, q1, q2, q3⟩ := (mg.more (J := [CI t e])).nC (k := 1) (y := b) (by rw [aO]; rfl)
 have hh := iJ (T := T) hb e q1
 have a2 : A2.length = 8 := by omega
 rw [a2] at hh
 have bV := pH.ne (T := T) q1 e
 have key : ∀ B2, kJ j1 LJ LK A2 C2 RM (B1 ++ [CI t e]) B2 (aV (aC E b e) e) → B2[j]? = (B1 ++ [CI t e])[j]? ∧ B2[N + 2]? = (B1 ++ [CI t e])[N + 2]? ∧ B2[N + 1]? = some mz ∧ B2.length = N + 3 ∧ cm j lo hi B.length B B2 := by
  intro B2 dU
  have ic := dU.2.1
  simp only [List.length_append, List.length_cons, List.length_nil, aU, Nat.zero_add, Nat.reduceAdd] at ic
  have g2 := mg.pX (q2 _ _ dU.1) (i := N + 1) (by omega) (by simp [aU])
  rw [ai (by omega), f1] at g2
  exact ⟨dU.1.2.1 j (by simp; omega) tM, mg.pX (q2 _ _ dU.1) (i := N + 2) (by omega) (by simp [aU]), g2, ic, e1.app.step (q2 _ _ dU.1)⟩
 rw [LM he]
 unfold CI at *
 unfold aT at hh
 refine af.go 160 ?_
 simp only [W, seval, dV, aU, hj, aA, x0, RP, OG, RQ]
 refine af.bp 13 [] [N + 2, j] (by kernel_rfl) (by kernel_rfl) (by kernel_rfl) (by kernel_rfl) (by kernel_rfl) (by kernel_rfl) (by kernel_rfl) ?_
 simp (maxSteps := 4000000) only [W, seval, dV, xw, ie, aU, hj, aA, x7, i1, he, bH, bX, cO]
 refine cz bV hh ?_
 rintro v _ ⟨B2, rfl, dU, rfl⟩
 obtain ⟨g1, g2, g3, ic, e3⟩ := key B2 dU
 unfold mz at g3
 have dQ : N + 1 < B2.length := by omega
 have LL : N + 1 < N + 3 := by omega
 have e4 : ∀ Z, cm j lo hi B.length B (B2.set (N + 1) Z) := fun Z => e3.jh (by omega)
 have g4 : ∀ Z, (B2.set (N + 1) Z)[N + 1]? = some Z := fun Z => List.getElem?_set_self dQ
 have g5 : ∀ Z, (B2.set (N + 1) Z)[N + 2]? = B2[N + 2]? := fun Z => List.getElem?_set_ne (by omega)
 have g6 : ∀ Z, (B2.set (N + 1) Z)[j]? = B2[j]? := fun Z => List.getElem?_set_ne (by omega)
 refine ⟨⟨g2, g1, trivial⟩, ?_⟩
 simp (maxSteps := 4000000) only [W, seval, dV, xw, ic, g3, LL]
 refine ⟨⟨(g5 _).trans g2, (g6 _).trans g1⟩, ⟨(g5 _).trans g2, (g6 _).trans g1⟩, ?_⟩
 refine af.go 20 ?_
 simp only [W, seval, dV, ic]
 refine ct (v := ?_) (u := ?_) Tryz.func169 (by rfl) ?_ ?_ ?_
 rotate_left 2
 ·try simp only [W, seval, dV, ic, g4]
  exact rfl
 ·try simp only [W, seval, dV, ic, g4]
  exact rfl
 refine an (e4 _) ?_
 cases hw : aV (aC E b e) e with
 | none => exact ⟨_, rfl, .none (e4 _) rfl, t, by unfold aT; rw [he, List.map_cons, List.map_nil, cO]; rfl⟩
 | some z =>
  rw [hw] at dU
  have h9 := q3 B2 z dU
  rw [aO, eD] at h9
  exact ⟨_, rfl, h9.fin (e4 _) gy (fun i hi => List.getElem?_set_ne (by omega)) fun u hu => (Option.some.inj hu).symm, by show _ = V.bZ [aT t, _]; unfold aT; rw [he, List.map_cons, List.map_nil, cO]; rfl⟩
set_option maxHeartbeats 8000000 in
theorem OI {x a b d : aj} (AN : x.kind = 11) (hk : x.kids = [a, b, d]) (ha : dI E res a) (hb : dI E res b) (hd : dI E res d) (OD : ∀ w y t, aC E a w = some (y, t) → TW t) (want : az) (h : bU B n c s f w E res j lo hi A C kv x) : aD Tryz.prog av 169 [.ptr c 0, .ptr j A.length, aT want] ⟨B, T⟩ (lK (match aC E a bO with
 | some (a, t) => (gm t).bind fun _ => (aV (aC E b bS) bS).bind fun b => (aV (aC E d bS) bS).map fun c => (aP x [a, b, c], t)
 | none => none) j lo hi A C kv B T) := by
 obtain ⟨N, hn⟩ : ∃ N, B.length = N := ⟨_, rfl⟩
 obtain ⟨al, dA⟩ : ∃ a, A.length = a := ⟨_, rfl⟩
 have gy := h.nl
 have YN := h.nb
 rw [dA]
 refine mT hk ha OD want bO (by rw [if_neg (by omega)]) hn dA h (fun h0 v B' hd hv => ?_) fun B1 y t e hr h8 he aU e1 mg f1 => ?_
 ·have e0 := Aj (fun a t => (gm t).bind fun _ => (aV (aC E b bS) bS).bind fun b => (aV (aC E d bS) bS).map fun c => (aP x [a, b, c], t)) (fun y t h => by rw [rP h]; rfl) _ h0
  rw [e0]
  exact ⟨B', rfl, hd, hv⟩
 rw [hr]
 dsimp only
 rw [rO h8 he, Option.bind_some]
 obtain ⟨X, hX⟩ : ∃ X, A ++ aR x kv ++ C = X := ⟨_, rfl⟩
 obtain ⟨x0, x1, x2, x6, x7, x8, x9, j9, lM⟩ := cI hX.symm dA
 have aA := mg.row
 rw [ji, hX] at aA
 have hj : j < N + 2 := by omega
 have dm : N + 1 < N + 2 := by omega
 have OG : decide (x.kind = 10) = false := decide_eq_false (by omega)
 have RQ := decide_eq_true AN
 have RP : decide (x.kind = 12) = false := decide_eq_false (by omega)
 obtain ⟨j1, m, cap, rfl, mB⟩ := mg.bx (by rw [aO]; simp)
 rw [aO] at mB
 have i1 : (1 : Int) < (m : Int) := by rw [mB]; simp
 obtain ⟨LJ, LK, A2, C2, RM, a2, ⟨qc, tM⟩, q1, q2, q3⟩ := (mg.more (J := [CI t e])).nC (k := 1) (y := b) (by rw [aO]; rfl)
 have hh := iJ (T := T) hb bS q1
 have a2 : A2.length = 8 := by omega
 rw [a2] at hh
 have bV := pH.ne (T := T) q1 bS
 have key : ∀ B2, kJ j1 LJ LK A2 C2 RM (B1 ++ [CI t e]) B2 (aV (aC E b bS) bS) → B2[j]? = (B1 ++ [CI t e])[j]? ∧ B2[N + 2]? = (B1 ++ [CI t e])[N + 2]? ∧ B2[N + 1]? = some mz ∧ B2.length = N + 3 ∧ cm j lo hi B.length B B2 := by
  intro B2 dU
  have ic := dU.2.1
  simp only [List.length_append, List.length_cons, List.length_nil, aU, Nat.zero_add, Nat.reduceAdd] at ic
  have g2 := mg.pX (q2 _ _ dU.1) (i := N + 1) (by omega) (by simp [aU])
  rw [ai (by omega), f1] at g2
  exact ⟨dU.1.2.1 j (by simp; omega) tM, mg.pX (q2 _ _ dU.1) (i := N + 2) (by omega) (by simp [aU]), g2, ic, e1.app.step (q2 _ _ dU.1)⟩
 rw [LM he]
 unfold CI at *
 unfold aT at hh
 refine af.go 160 ?_
 simp only [W, seval, dV, aU, hj, aA, x0, RP, OG, RQ]
 refine af.bp 20 [] [N + 2, j] (by kernel_rfl) (by kernel_rfl) (by kernel_rfl) (by kernel_rfl) (by kernel_rfl) (by kernel_rfl) (by kernel_rfl) ?_
 simp (maxSteps := 4000000) only [W, seval, dV, xw, ie, aU, hj, aA, x7, i1, he, bH, bX, cO]
 refine bf (fun Z => rJ _ _) ?_
 simp (maxSteps := 4000000) only [W, seval, dV, xw, aU, aT]
 refine cz bV hh ?_
 rintro v _ ⟨B2, rfl, dU, rfl⟩
 obtain ⟨g1, g2, g3, ic, e3⟩ := key B2 dU
 unfold mz at g3
 have DA : j < N + 3 := by omega
 have LL : N + 1 < N + 3 := by omega
 have hN5 : N + 2 < N + 3 := by omega
 have dQ : N + 1 < B2.length := by omega
 refine ⟨⟨g2, g1, trivial⟩, ?_⟩
 cases hw : aV (aC E b bS) bS with
 | none =>
  simp (maxSteps := 4000000) only [W, seval, dV, xw, Option.isSome_none, ic, g3, LL]
  have e4 : ∀ Z, cm j lo hi B.length B (B2.set (N + 1) Z) := fun Z => e3.jh (by omega)
  have g4 : ∀ Z, (B2.set (N + 1) Z)[N + 1]? = some Z := fun Z => List.getElem?_set_self dQ
  have g5 : ∀ Z, (B2.set (N + 1) Z)[N + 2]? = B2[N + 2]? := fun Z => List.getElem?_set_ne (by omega)
  have g6 : ∀ Z, (B2.set (N + 1) Z)[j]? = B2[j]? := fun Z => List.getElem?_set_ne (by omega)
  refine ⟨⟨(g5 _).trans g2, (g6 _).trans g1⟩, ⟨(g5 _).trans g2, (g6 _).trans g1⟩, ?_⟩
  refine af.go 20 ?_
  simp only [W, seval, dV, ic]
  refine ct (v := ?_) (u := ?_) Tryz.func169 (by rfl) ?_ ?_ ?_
  rotate_left 2
  ·try simp only [W, seval, dV, ic, g4]
   exact rfl
  ·try simp only [W, seval, dV, ic, g4]
   exact rfl
  refine an (e4 _) ?_
  exact ⟨_, rfl, .none (e4 _) rfl, t, by unfold aT; rw [he, List.map_cons, List.map_nil, cO]; rfl⟩
 | some z =>
  rw [hw] at dU
  have h9 := q3 B2 z dU
  rw [aO, eD] at h9
  obtain ⟨lo3, hi3, A3, C3, kv3, a3, ⟨hj3, RR⟩, r1, r2, r3⟩ := h9.nC (k := 2) (y := d) (by rw [aO]; rfl)
  have RS := iJ (T := T) hd bS r1
  have a3 : A3.length = 16 := by omega
  rw [a3] at RS
  unfold aT at RS
  have RT := pH.ne (T := T) r1 bS
  have IV : B2[j]? = some X := by rw [g1, ai (by omega)]; exact aA
  have i2 : (2 : Int) < (m : Int) := by rw [mB]; simp
  simp (maxSteps := 4000000) only [W, seval, dV, xw, ie, Option.isSome_some, ic, g3, LL, DA, IV, x7, i2]
  refine bf (fun Z => rJ _ _) ?_
  simp (maxSteps := 4000000) only [W, seval, dV, xw, ic, aT]
  refine ⟨⟨g2, g1⟩, cz RT RS ?_⟩
  rintro v _ ⟨B3, rfl, yJ, rfl⟩
  have IZ := yJ.2.1
  rw [ic] at IZ
  have e5 := e3.step (r2 _ _ yJ.1)
  have k1 := (yJ.1.2.1 j (by omega) RR)
  have k2 := h9.pX (r2 _ _ yJ.1) (i := N + 2) (by omega) (by omega)
  have k3 := h9.pX (r2 _ _ yJ.1) (i := N + 1) (by omega) (by omega)
  rw [g3] at k3
  have U4 : N + 1 < B3.length := by omega
  have e4 : ∀ Z, cm j lo hi B.length B (B3.set (N + 1) Z) := fun Z => e5.jh (by omega)
  have g4 : ∀ Z, (B3.set (N + 1) Z)[N + 1]? = some Z := fun Z => List.getElem?_set_self U4
  have g5 : ∀ Z, (B3.set (N + 1) Z)[N + 2]? = B3[N + 2]? := fun Z => List.getElem?_set_ne (by omega)
  have g6 : ∀ Z, (B3.set (N + 1) Z)[j]? = B3[j]? := fun Z => List.getElem?_set_ne (by omega)
  have k4 := k2.trans g2
  have k5 := k1.trans g1
  refine ⟨⟨k4, k5, trivial⟩, ?_⟩
  simp (maxSteps := 4000000) only [W, seval, dV, xw, IZ, k3, LL]
  refine ⟨⟨(g5 _).trans k4, (g6 _).trans k5⟩, ⟨(g5 _).trans k4, (g6 _).trans k5⟩, ?_⟩
  refine af.go 20 ?_
  simp only [W, seval, dV, IZ]
  refine ct (v := ?_) (u := ?_) Tryz.func169 (by rfl) ?_ ?_ ?_
  rotate_left 2
  ·try simp only [W, seval, dV, IZ, g4]
   exact rfl
  ·try simp only [W, seval, dV, IZ, g4]
   exact rfl
  refine an (e4 _) ?_
  cases U5 : aV (aC E d bS) bS with
  | none => exact ⟨_, rfl, .none (e4 _) rfl, t, by unfold aT; rw [he, List.map_cons, List.map_nil, cO]; rfl⟩
  | some u =>
   rw [U5] at yJ
   have hA := r3 B3 u yJ
   rw [aO, eD] at hA
   exact ⟨_, rfl, hA.fin (e4 _) gy (fun i hi => List.getElem?_set_ne (by omega)) fun u hu => (Option.some.inj hu).symm, by show _ = V.bZ [aT t, _]; unfold aT; rw [he, List.map_cons, List.map_nil, cO]; rfl⟩
end
def fG := by
 have c := aN Tryz.f173 (by conv => lhs; cbv)
 dsimp only [KK, fj, eR, eS, List.map_cons, List.map_nil, List.toList_toArray] at c
 exact c
theorem RU : bK Tryz.prog 173 Tryz.f173 78 := ⟨Tryz.func173, by kernel_rfl⟩
section
variable {E : bG} {res : List az} {n c s f w : Nat} {B : List (List V)} {T : List (Nat × Nat)} {j lo hi : Nat} {A C : List V} {kv : V}
set_option maxHeartbeats 8000000 in
theorem OJ {x a : aj} (h4 : x.kind = 4) (hk : x.kids = [a]) (ha : dI E res a) (want : az) (h : bU B n c s f w E res j lo hi A C kv x) : aD Tryz.prog av 173 [.ptr c 0, .ptr j A.length, aT want] ⟨B, T⟩ (lK ((aV (aC E a bg) bg).map fun a => (aP x [a], bg)) j lo hi A C kv B T) := by
 obtain ⟨N, hn⟩ : ∃ N, B.length = N := ⟨_, rfl⟩
 obtain ⟨al, dA⟩ : ∃ a, A.length = a := ⟨_, rfl⟩
 obtain ⟨X, hX⟩ : ∃ X, A ++ aR x kv ++ C = X := ⟨_, rfl⟩
 obtain ⟨x0, x1, x2, x6, x7, x8, x9, j9, lM⟩ := cI hX.symm dA
 have aA := h.row
 rw [hX] at aA
 have gy := h.nl
 have hj : j < N := by have := h.nb; omega
 obtain ⟨j1, m, cap, rfl, mB⟩ := h.bx (by rw [hk]; simp)
 have hm : (0 : Int) < (m : Int) := by rw [mB, hk]; simp
 obtain ⟨eC, dM, A1, C1, mc, a1, ⟨qc, tM⟩, k1, k2, k3⟩ := (h.more (J := [jt want, mz])).nC (k := 0) (y := a) (by rw [hk]; rfl)
 rw [Nat.zero_mul] at a1
 have hh := iJ (T := T) ha bg k1
 have e4 := decide_eq_true h4
 have dm : N + 1 < N + 2 := by omega
 rw [a1] at hh
 rw [dA]
 unfold aT jt mz at *
 refine RU.go 160 rfl fun bh => ?_
 simp only [eI] at bh
 simp only [W, seval, fG, ie, hn, hj, aA, x0, x7, hm, e4]
 refine ag (eY _ _) ?_
 rintro _ _ ⟨rfl, rfl⟩
 refine af.go 60 ?_
 simp only [W, seval, fG]
 refine ag (eY _ _) ?_
 rintro _ _ ⟨rfl, rfl⟩
 unfold aT
 refine af.go 60 ?_
 simp only [W, seval, fG]
 refine aQ hh ?_
 rintro v _ ⟨B1, rfl, hd, rfl⟩
 have aU := hd.2.1
 simp only [List.length_append, List.length_cons, List.length_nil, hn, Nat.zero_add, Nat.reduceAdd] at aU
 have e1 : cm j lo hi B.length B B1 := cm.new.step (k2 _ _ hd.1)
 have f1 := h.pX (k2 _ _ hd.1) (i := N + 1) (by omega) (by simp [hn])
 rw [dx hn] at f1
 simp only [List.getElem?_cons_zero, List.getElem?_cons_succ] at f1
 have dQ : N + 1 < B1.length := by omega
 have e2 : ∀ Z, cm j lo hi B.length B (B1.set (N + 1) Z) := fun Z => e1.jh (by omega)
 have g4 : ∀ Z, (B1.set (N + 1) Z)[N + 1]? = some Z := fun Z => List.getElem?_set_self dQ
 refine af.go 60 ?_
 simp only [W, seval, fG, aU, f1, dm]
 refine ct (v := ?_) (u := ?_) Tryz.func173 (by rfl) ?_ ?_ ?_
 rotate_left 2
 ·try simp only [W, seval, fG, g4]
  exact rfl
 ·try simp only [W, seval, fG, g4]
  exact rfl
 refine an (e2 _) ?_
 cases hw : aV (aC E a bg) bg with
 | none => exact ⟨_, rfl, .none (e2 _) rfl, bg, rfl⟩
 | some z =>
  rw [hw] at hd
  have h9 := k3 B1 z hd
  rw [hk] at h9
  exact ⟨_, rfl, h9.fin (e2 _) gy (fun i hi => List.getElem?_set_ne (by omega)) fun u hu => (Option.some.inj hu).symm, rfl⟩
set_option maxHeartbeats 8000000 in
theorem OK {x a : aj} (h5 : x.kind = 5) (hk : x.kids = [a]) (ha : dI E res a) (want : az) (h : bU B n c s f w E res j lo hi A C kv x) : aD Tryz.prog av 173 [.ptr c 0, .ptr j A.length, aT want] ⟨B, T⟩ (lK (match aC E a want with
 | some (a, t) => if jV t.kind = true then some (aP x [a], t) else none
 | none => none) j lo hi A C kv B T) := by
 obtain ⟨N, hn⟩ : ∃ N, B.length = N := ⟨_, rfl⟩
 obtain ⟨al, dA⟩ : ∃ a, A.length = a := ⟨_, rfl⟩
 obtain ⟨X, hX⟩ : ∃ X, A ++ aR x kv ++ C = X := ⟨_, rfl⟩
 obtain ⟨x0, x1, x2, x6, x7, x8, x9, j9, lM⟩ := cI hX.symm dA
 have aA := h.row
 rw [hX] at aA
 have gy := h.nl
 have hj : j < N := by have := h.nb; omega
 obtain ⟨j1, m, cap, rfl, mB⟩ := h.bx (by rw [hk]; simp)
 have hm : (0 : Int) < (m : Int) := by rw [mB, hk]; simp
 obtain ⟨eC, dM, A1, C1, mc, a1, ⟨qc, tM⟩, k1, k2, k3⟩ := (h.more (J := [jt want, mz])).nC (k := 0) (y := a) (by rw [hk]; rfl)
 rw [Nat.zero_mul] at a1
 have hh := ha want n c s f w _ T _ _ _ _ _ _ k1
 have e5 := decide_eq_true h5
 have e4 : decide (x.kind = 4) = false := decide_eq_false (by omega)
 have dm : N + 1 < N + 2 := by omega
 rw [a1] at hh
 rw [dA]
 unfold aT jt mz at *
 refine RU.go 160 rfl fun bh => ?_
 simp only [eI] at bh
 simp only [W, seval, fG, ie, hn, hj, aA, x0, x7, hm, e4, e5]
 refine aQ hh ?_
 rintro v _ ⟨B1, rfl, hd, hv⟩
 obtain ⟨t, b, rfl, lD, iM⟩ := mR hv
 have aU := hd.2.1
 simp only [List.length_append, List.length_cons, List.length_nil, hn, Nat.zero_add, Nat.reduceAdd] at aU
 have e1 : cm j lo hi B.length B B1 := cm.new.step (k2 _ _ hd.1)
 have f1 := h.pX (k2 _ _ hd.1) (i := N + 1) (by omega) (by simp [hn])
 rw [dx hn] at f1
 simp only [List.getElem?_cons_zero, List.getElem?_cons_succ] at f1
 have dQ : N + 1 < B1.length := by omega
 have e2 : ∀ Z J, cm j lo hi B.length B (B1.set (N + 1) Z ++ J) := fun Z J => (e1.jh (by omega)).app
 have g4 : ∀ Z, (B1.set (N + 1) Z)[N + 1]? = some Z := fun Z => List.getElem?_set_self dQ
 unfold aT
 cases b
 ·have hr := iM rfl
  rw [hr]
  refine af.go 60 ?_
  simp only [W, seval, fG, aU]
  refine af.bp 7 [] [N + 2] (by kernel_rfl) (by kernel_rfl) (by kernel_rfl) (by kernel_rfl) (by kernel_rfl) (by kernel_rfl) (by kernel_rfl) ?_
  simp (maxSteps := 4000000) only [W, seval, fG, xw, aU, f1, dm]
  refine af.go 60 ?_
  simp only [W, seval, fG, aU]
  refine ct (v := ?_) (u := ?_) Tryz.func173 (by rfl) ?_ ?_ ?_
  rotate_left 2
  ·try simp only [W, seval, fG, aU, dm, dQ, g4]
   exact rfl
  ·try simp only [W, seval, fG, aU, dm, dQ, g4]
   exact rfl
  refine an (e2 _ _) ?_
  exact ⟨_, rfl, .none (e2 _ _) rfl, t, rfl⟩
 ·obtain ⟨y, hr⟩ := lD rfl
  rw [hr] at hd ⊢
  dsimp only
  refine af.go 60 ?_
  simp only [W, seval, fG, aU]
  refine af.bp 7 [] [N + 2] (by kernel_rfl) (by kernel_rfl) (by kernel_rfl) (by kernel_rfl) (by kernel_rfl) (by kernel_rfl) (by kernel_rfl) ?_
  simp (maxSteps := 4000000) only [W, seval, fG, xw, aU, f1, dm]
  refine bf (fun Z => eZ t _ _) ?_
  simp (maxSteps := 4000000) only [W, seval, fG, xw, aU, f1, dm]
  refine af.go 60 ?_
  simp only [W, seval, fG, aU]
  refine ct (v := ?_) (u := ?_) Tryz.func173 (by rfl) ?_ ?_ ?_
  rotate_left 2
  ·try simp only [W, seval, fG, aU, dm, dQ, g4]
   exact rfl
  ·try simp only [W, seval, fG, aU, dm, dQ, g4]
   exact rfl
  refine an (e2 _ _) ?_
  have h9 := k3 B1 y hd
  rw [hk] at h9
  cases jV t.kind with
  | false => exact ⟨_, rfl, .none (e2 _ _) rfl, t, rfl⟩
  | true => exact ⟨_, rfl, h9.fin (e2 _ _) gy (fun i hi => by rw [ai (by rw [List.length_set]; omega), List.getElem?_set_ne (by omega)]) fun u hu => (Option.some.inj hu).symm, rfl⟩
set_option maxHeartbeats 8000000 in
theorem OL {x a : aj} (h8 : x.kind = 8) (hk : x.kids = [a]) (ha : dI E res a) (yb : a.kind = 5 → a.kids ≠ []) (want : az) (h : bU B n c s f w E res j lo hi A C kv x) : aD Tryz.prog av 173 [.ptr c 0, .ptr j A.length, aT want] ⟨B, T⟩ (lK (if gN a = true then (aV (aC E a x.type) x.type).map fun a => (aP x [a], x.type) else match aC E a bO with
 | some (a, t) => if jV t.kind = true then some (aP x [a], x.type) else none
 | none => none) j lo hi A C kv B T) := by
 obtain ⟨N, hn⟩ : ∃ N, B.length = N := ⟨_, rfl⟩
 obtain ⟨al, dA⟩ : ∃ a, A.length = a := ⟨_, rfl⟩
 obtain ⟨X, hX⟩ : ∃ X, A ++ aR x kv ++ C = X := ⟨_, rfl⟩
 obtain ⟨x0, x1, x2, x6, x7, x8, x9, j9, lM⟩ := cI hX.symm dA
 have aA := h.row
 rw [hX] at aA
 have gy := h.nl
 have hj : j < N := by have := h.nb; omega
 obtain ⟨j1, m, cap, rfl, mB⟩ := h.bx (by rw [hk]; simp)
 have hm : (0 : Int) < (m : Int) := by rw [mB, hk]; simp
 obtain ⟨eC, dM, A1, C1, mc, a1, ⟨qc, tM⟩, k1, k2, k3⟩ := (h.more (J := [jt want, mz])).nC (k := 0) (y := a) (by rw [hk]; rfl)
 rw [Nat.zero_mul] at a1
 have MH := E0 yb k1.own T
 have hh := iJ (T := T) ha x.type k1
 have ht := ha bO n c s f w _ T _ _ _ _ _ _ k1
 obtain ⟨Y, hY⟩ : ∃ Y, A1 ++ aR a mc ++ C1 = Y := ⟨_, rfl⟩
 obtain ⟨y0, y7, y8, y9⟩ := Ag hY.symm a1
 have lu := k1.row
 rw [hY, ai (by omega)] at lu
 have qc : j1 < N := by omega
 have e5 : decide (x.kind = 5) = false := decide_eq_false (by omega)
 have e4 : decide (x.kind = 4) = false := decide_eq_false (by omega)
 have dm : N + 1 < N + 2 := by omega
 rw [a1] at hh ht
 rw [dA]
 unfold aT jt mz at *
 refine RU.go 160 rfl fun bh => ?_
 simp only [eI] at bh
 simp only [W, seval, fG, ie, hn, hj, aA, x0, x7, hm, e4, e5, qc, lu, y8, y9]
 refine aQ MH ?_
 rintro _ _ ⟨rfl, rfl⟩
 have key : ∀ B1 r, kJ j1 eC dM A1 C1 mc (B ++ [[V.d (.int .i64 want.kind), .d (.str want.name), .d (.sl (want.elem.map ej))], [V.d (.int .i64 0), .d (.str []), .sl [] .full]]) B1 r → B1.length = N + 2 ∧ cm j lo hi B.length B B1 ∧ B1[N + 1]? = some [V.d (.int .i64 0), .d (.str []), .sl [] .full] ∧ B1[j]? = some X := by
  intro B1 r hd
  have aU := hd.2.1
  simp only [List.length_append, List.length_cons, List.length_nil, hn, Nat.zero_add, Nat.reduceAdd] at aU
  have f1 := h.pX (k2 _ _ hd.1) (i := N + 1) (by omega) (by simp [hn])
  rw [dx hn] at f1
  simp only [List.getElem?_cons_zero, List.getElem?_cons_succ] at f1
  exact ⟨aU, cm.new.step (k2 _ _ hd.1), f1, by rw [hd.1.2.1 j (by simp; omega) tM, ai (by omega)]; exact aA⟩
 have DA : j < N + 2 := by omega
 cases OC : gN a
 ·rw [if_neg (by decide)]
  refine af.go 60 ?_
  simp only [W, seval, fG]
  refine ag (cH _ _) ?_
  rintro _ _ ⟨rfl, rfl⟩
  unfold aT
  refine af.go 60 ?_
  simp only [W, seval, fG]
  refine aQ ht ?_
  rintro v _ ⟨B1, rfl, hd, hv⟩
  obtain ⟨t, b, rfl, lD, iM⟩ := mR hv
  obtain ⟨aU, e1, f1, f2⟩ := key B1 _ hd
  have dQ : N + 1 < B1.length := by omega
  have e2 : ∀ Z J, cm j lo hi B.length B (B1.set (N + 1) Z ++ J) := fun Z J => (e1.jh (by omega)).app
  have g4 : ∀ Z, (B1.set (N + 1) Z)[N + 1]? = some Z := fun Z => List.getElem?_set_self dQ
  have g6 : ∀ Z, (B1.set (N + 1) Z)[j]? = B1[j]? := fun Z => List.getElem?_set_ne (by omega)
  have g7 : ∀ Z J, (B1.set (N + 1) Z ++ J)[j]? = (B1 ++ J)[j]? := fun Z J => by rw [ai (by rw [List.length_set]; omega), ai (by omega), g6]
  unfold aT
  cases b
  ·have hr := iM rfl
   rw [hr]
   refine af.go 60 ?_
   simp only [W, seval, fG, aU]
   refine af.bp 10 [] [j] (by kernel_rfl) (by kernel_rfl) (by kernel_rfl) (by kernel_rfl) (by kernel_rfl) (by kernel_rfl) (by kernel_rfl) ?_
   simp (maxSteps := 4000000) only [W, seval, fG, xw, aU, f1, dm, DA, f2, j9, lM]
   refine ⟨(g6 _).trans f2, (g6 _).trans f2, ?_⟩
   refine af.go 60 ?_
   simp only [W, seval, fG, aU]
   refine ct (v := ?_) (u := ?_) Tryz.func173 (by rfl) ?_ ?_ ?_
   rotate_left 2
   ·try simp only [W, seval, fG, aU, dm, dQ, g4]
    exact rfl
   ·try simp only [W, seval, fG, aU, dm, dQ, g4]
    exact rfl
   refine an (e2 _ _) ?_
   exact ⟨_, rfl, .none (e2 _ _) rfl, x.type, rfl⟩
  ·obtain ⟨y, hr⟩ := lD rfl
   rw [hr] at hd ⊢
   dsimp only
   refine af.go 60 ?_
   simp only [W, seval, fG, aU]
   refine af.bp 10 [] [j, N + 2] (by kernel_rfl) (by kernel_rfl) (by kernel_rfl) (by kernel_rfl) (by kernel_rfl) (by kernel_rfl) (by kernel_rfl) ?_
   simp (maxSteps := 4000000) only [W, seval, fG, xw, aU, f1, dm, DA, f2, j9, lM]
   refine bf (fun Z => eZ t _ _) ?_
   simp (maxSteps := 4000000) only [W, seval, fG, xw, aU, f1, dm]
   refine ⟨g7 _ _, g7 _ _, ?_⟩
   refine af.go 60 ?_
   simp only [W, seval, fG, aU]
   refine ct (v := ?_) (u := ?_) Tryz.func173 (by rfl) ?_ ?_ ?_
   rotate_left 2
   ·try simp only [W, seval, fG, aU, dm, dQ, g4]
    exact rfl
   ·try simp only [W, seval, fG, aU, dm, dQ, g4]
    exact rfl
   refine an (e2 _ _) ?_
   have h9 := k3 B1 y hd
   rw [hk] at h9
   cases jV t.kind with
   | false => exact ⟨_, rfl, .none (e2 _ _) rfl, x.type, rfl⟩
   | true => exact ⟨_, rfl, h9.fin (e2 _ _) gy (fun i hi => by rw [ai (by rw [List.length_set]; omega), List.getElem?_set_ne (by omega)]) fun u hu => (Option.some.inj hu).symm, rfl⟩
 ·rw [if_pos rfl]
  refine af.go 60 ?_
  simp only [W, seval, fG]
  refine af.bp 12 [] [j] (by kernel_rfl) (by kernel_rfl) (by kernel_rfl) (by kernel_rfl) (by kernel_rfl) (by kernel_rfl) (by kernel_rfl) ?_
  simp (maxSteps := 4000000) only [W, seval, fG, xw, hn, hj, aA, j9, lM]
  refine cz (pH.ne (T := T) k1 x.type) hh ?_
  rintro v _ ⟨B1, rfl, hd, rfl⟩
  obtain ⟨aU, e1, f1, f2⟩ := key B1 _ hd
  have dQ : N + 1 < B1.length := by omega
  have e2 : ∀ Z, cm j lo hi B.length B (B1.set (N + 1) Z) := fun Z => e1.jh (by omega)
  have g4 : ∀ Z, (B1.set (N + 1) Z)[N + 1]? = some Z := fun Z => List.getElem?_set_self dQ
  have g1 : B1[j]? = (B ++ [[V.d (.int .i64 want.kind), .d (.str want.name), .d (.sl (want.elem.map ej))], [V.d (.int .i64 0), .d (.str []), .sl [] .full]])[j]? := hd.1.2.1 j (by simp; omega) tM
  have g6 : ∀ Z, (B1.set (N + 1) Z)[j]? = B1[j]? := fun Z => List.getElem?_set_ne (by omega)
  refine ⟨⟨g1, trivial⟩, ?_⟩
  simp (maxSteps := 4000000) only [W, seval, fG, xw, aU, f1, dm]
  refine ⟨(g6 _).trans g1, (g6 _).trans g1, ?_⟩
  refine af.go 60 ?_
  simp only [W, seval, fG, aU]
  refine ct (v := ?_) (u := ?_) Tryz.func173 (by rfl) ?_ ?_ ?_
  rotate_left 2
  ·try simp only [W, seval, fG, g4]
   exact rfl
  ·try simp only [W, seval, fG, g4]
   exact rfl
  refine an (e2 _) ?_
  cases hw : aV (aC E a x.type) x.type with
  | none => exact ⟨_, rfl, .none (e2 _) rfl, x.type, rfl⟩
  | some z =>
   rw [hw] at hd
   have h9 := k3 B1 z hd
   rw [hk] at h9
   exact ⟨_, rfl, h9.fin (e2 _) gy (fun i hi => List.getElem?_set_ne (by omega)) fun u hu => (Option.some.inj hu).symm, rfl⟩
end
def bz := by
 have c := aN Tryz.f167 (by conv => lhs; cbv)
 dsimp only [KK, fj, eR, eS, List.map_cons, List.map_nil, List.toList_toArray] at c
 exact c
theorem LN : bK Tryz.prog 167 Tryz.f167 124 := ⟨Tryz.func167, by kernel_rfl⟩
theorem eN {α : Type} [DecidableEq α] (a b : List α) : (a == b) = decide (a = b) := by
 rw [Bool.eq_iff_iff]; simp
section
variable {E : bG} {res : List az} {n c s f w : Nat} {B : List (List V)} {T : List (Nat × Nat)} {j lo hi : Nat} {A C : List V} {kv : V}
theorem Ak {x : aj} {p q : List V} {N : Nat} (hn : B.length = N) (h : bU B n c s f w E res j lo hi A C kv x) {r : Option (aj × aj × az)} {v : V} {S' : Mem} (ht : lK (r.map fun r => (aP x [r.1, r.2.1], r.2.2)) j lo hi A C kv (B ++ [p, q]) T v S') :
 ∃ B1 t b0, v = .bZ [aT t, .d (.bool b0)] ∧ S' = ⟨B1, T⟩ ∧ B1.length = N + 2 ∧ B1[N + 1]? = some q ∧ (∀ Z J, cm j lo hi B.length B (B1.set (N + 1) Z ++ J)) ∧ (b0 = false → r = none) ∧ (b0 = true → ∃ a' b', r = some (a', b', t) ∧ ∀ Z J, kJ j lo hi A C kv B ((B1.set (N + 1) Z ++ J).take B.length) (some (aP x [a', b']))) := by
 have gy := h.nl
 obtain ⟨B1, rfl, hd, hv⟩ := ht
 obtain ⟨t, b0, rfl, lD, iM⟩ := mR hv
 have aU := hd.2.1
 simp only [List.length_append, List.length_cons, List.length_nil, hn, Nat.zero_add, Nat.reduceAdd] at aU
 have e1 : cm j lo hi B.length B B1 := cm.new.step hd.1
 have f1 := h.pX hd.1 (i := N + 1) (by omega) (by simp [hn])
 rw [dx hn] at f1
 simp only [List.getElem?_cons_zero, List.getElem?_cons_succ] at f1
 have e2 : ∀ Z J, cm j lo hi B.length B (B1.set (N + 1) Z ++ J) := fun Z J => (e1.jh (by omega)).app
 refine ⟨B1, t, b0, rfl, rfl, aU, f1, e2, fun h => by simpa using iM h, fun hb => ?_⟩
 obtain ⟨y, hy⟩ := lD hb
 obtain ⟨⟨a', b', t'⟩, hr, e⟩ := Option.map_eq_some_iff.1 hy
 obtain ⟨e3, rfl⟩ := Prod.mk.inj e
 rw [hr] at hd
 exact ⟨a', b', hr, fun Z J => (h.more.done hd).fin (e2 Z J) gy (fun i hi => by rw [ai (by rw [List.length_set]; omega), List.getElem?_set_ne (by omega)]) fun u hu => (Option.some.inj hu).symm⟩
set_option maxHeartbeats 8000000 in
theorem I0 {x a b : aj} (uj : kE x.text = false) (wT : shift x.text = false) (qw : alike x.text = true) (hk : x.kids = [a, b]) (ha : dI E res a) (hb : dI E res b) (yb : a.kind = 5 → a.kids ≠ []) (want : az) (h : bU B n c s f w E res j lo hi A C kv x) : aD Tryz.prog av 167 [.ptr c 0, .ptr j A.length, aT want] ⟨B, T⟩ (lK ((pG (aC E a) (aC E b) (gN a) x.text want).map fun r => (aP x [r.1, r.2.1], r.2.2)) j lo hi A C kv B T) := by
 obtain ⟨N, hn⟩ : ∃ N, B.length = N := ⟨_, rfl⟩
 obtain ⟨al, dA⟩ : ∃ a, A.length = a := ⟨_, rfl⟩
 obtain ⟨X, hX⟩ : ∃ X, A ++ aR x kv ++ C = X := ⟨_, rfl⟩
 obtain ⟨x0, x1, x2, x6, x7, x8, x9, j9, lM⟩ := cI hX.symm dA
 have aA := h.row
 rw [hX] at aA
 have gy := h.nl
 have hj : j < N := by have := h.nb; omega
 have dm : N + 1 < N + 2 := by omega
 have z8 := Ah (T := T) hk ha hb yb bO (h.more (J := [jt want, mz]))
 unfold pG
 rw [uj, wT, qw, if_neg (by decide), if_neg (by decide), if_pos rfl]
 have e5 : (decide (x.text = [61, 61]) = true ∧ decide (x.text = [61, 61]) = true) ∨ (decide (x.text = [61, 61]) = false ∧ decide (x.text = [33, 61]) = true) := by
  unfold alike at qw
  rw [eN, eN] at qw
  cases hd : decide (x.text = [61, 61])
  ·rw [hd, Bool.false_or] at qw; exact .inr ⟨rfl, qw⟩
  ·exact .inl ⟨rfl, rfl⟩
 unfold kE at uj
 unfold shift at wT
 rw [eN, eN, Bool.or_eq_false_iff] at uj wT
 obtain ⟨e1, e2⟩ := uj
 obtain ⟨e3, e4⟩ := wT
 rw [dA] at z8 ⊢
 unfold aT jt mz at *
 rcases e5 with ⟨e5, e6⟩ | ⟨e5, e6⟩
 all_goals
  refine LN.go 160 rfl fun bh => ?_
  simp only [eI] at bh
  simp only [W, seval, bz, hn, hj, aA, x1, e1, e2, e3, e4, e5, e6]
  refine ag (cH _ _) ?_
  rintro _ _ ⟨rfl, rfl⟩
  unfold aT
  refine af.go 60 ?_
  simp only [W, seval, bz, hn]
  refine aQ z8 ?_
  intro v S' hv
  obtain ⟨B1, t, b0, rfl, rfl, aU, f1, ee, iM, lD⟩ := Ak hn h hv
  have dQ : N + 1 < B1.length := by omega
  have g4 : ∀ Z, (B1.set (N + 1) Z)[N + 1]? = some Z := fun Z => List.getElem?_set_self dQ
  unfold aT
  cases b0
  ·rw [iM rfl]
   refine af.go 60 ?_
   simp only [W, seval, bz, aU]
   refine af.bp 12 [] [N + 2] (by kernel_rfl) (by kernel_rfl) (by kernel_rfl) (by kernel_rfl) (by kernel_rfl) (by kernel_rfl) (by kernel_rfl) ?_
   simp (maxSteps := 4000000) only [W, seval, bz, xw, aU]
   refine bf (fun Z => eY _ _) ?_
   simp (maxSteps := 4000000) only [W, seval, bz, xw, aU, f1, dm, aT]
   refine af.go 60 ?_
   simp only [W, seval, bz, aU]
   refine ct (v := ?_) (u := ?_) Tryz.func167 (by rfl) ?_ ?_ ?_
   rotate_left 2
   ·try simp only [W, seval, bz, aU, dm, dQ, g4]
    exact rfl
   ·try simp only [W, seval, bz, aU, dm, dQ, g4]
    exact rfl
   refine an (ee _ _) ?_
   exact ⟨_, rfl, .none (ee _ _) rfl, bg, rfl⟩
  ·obtain ⟨a', b', hr, hdd⟩ := lD rfl
   rw [hr]
   dsimp only
   refine af.go 60 ?_
   simp only [W, seval, bz, aU]
   cases LP : jV t.kind
   ·by_cases h1 : t.kind = 1
    ·have Tv := decide_eq_true h1
     rw [if_pos (.inr h1)]
     refine af.bp 12 [] [N + 2] (by kernel_rfl) (by kernel_rfl) (by kernel_rfl) (by kernel_rfl) (by kernel_rfl) (by kernel_rfl) (by kernel_rfl) ?_
     simp (maxSteps := 4000000) only [W, seval, bz, xw, aU]
     refine bf (fun Z => eY _ _) ?_
     simp (maxSteps := 4000000) only [W, seval, bz, xw, aU, f1, dm, aT]
     refine bf (fun Z => eZ t _ _) ?_
     simp (maxSteps := 4000000) only [W, seval, bz, xw, aU, f1, dm, LP, Tv]
     refine af.go 60 ?_
     simp only [W, seval, bz, aU]
     refine ct (v := ?_) (u := ?_) Tryz.func167 (by rfl) ?_ ?_ ?_
     rotate_left 2
     ·try simp only [W, seval, bz, aU, dm, dQ, g4]
      exact rfl
     ·try simp only [W, seval, bz, aU, dm, dQ, g4]
      exact rfl
     refine an (ee _ _) ?_
     exact ⟨_, rfl, hdd _ _, rfl⟩
    ·have Tv := decide_eq_false h1
     rw [if_neg (fun h => h.elim (fun h => by cases h) h1)]
     refine af.bp 12 [] [N + 2] (by kernel_rfl) (by kernel_rfl) (by kernel_rfl) (by kernel_rfl) (by kernel_rfl) (by kernel_rfl) (by kernel_rfl) ?_
     simp (maxSteps := 4000000) only [W, seval, bz, xw, aU]
     refine bf (fun Z => eY _ _) ?_
     simp (maxSteps := 4000000) only [W, seval, bz, xw, aU, f1, dm, aT]
     refine bf (fun Z => eZ t _ _) ?_
     simp (maxSteps := 4000000) only [W, seval, bz, xw, aU, f1, dm, LP, Tv]
     refine af.go 60 ?_
     simp only [W, seval, bz, aU]
     refine ct (v := ?_) (u := ?_) Tryz.func167 (by rfl) ?_ ?_ ?_
     rotate_left 2
     ·try simp only [W, seval, bz, aU, dm, dQ, g4]
      exact rfl
     ·try simp only [W, seval, bz, aU, dm, dQ, g4]
      exact rfl
     refine an (ee _ _) ?_
     exact ⟨_, rfl, .none (ee _ _) rfl, bg, rfl⟩
   ·rw [if_pos (.inl rfl)]
    refine af.bp 12 [] [N + 2] (by kernel_rfl) (by kernel_rfl) (by kernel_rfl) (by kernel_rfl) (by kernel_rfl) (by kernel_rfl) (by kernel_rfl) ?_
    simp (maxSteps := 4000000) only [W, seval, bz, xw, aU]
    refine bf (fun Z => eY _ _) ?_
    simp (maxSteps := 4000000) only [W, seval, bz, xw, aU, f1, dm, aT]
    refine bf (fun Z => eZ t _ _) ?_
    simp (maxSteps := 4000000) only [W, seval, bz, xw, aU, f1, dm, LP]
    refine af.go 60 ?_
    simp only [W, seval, bz, aU]
    refine ct (v := ?_) (u := ?_) Tryz.func167 (by rfl) ?_ ?_ ?_
    rotate_left 2
    ·try simp only [W, seval, bz, aU, dm, dQ, g4]
     exact rfl
    ·try simp only [W, seval, bz, aU, dm, dQ, g4]
     exact rfl
    refine an (ee _ _) ?_
    exact ⟨_, rfl, hdd _ _, rfl⟩
set_option maxHeartbeats 8000000 in
theorem I1 {x a b : aj} (uj : kE x.text = false) (wT : shift x.text = false) (qw : alike x.text = false) (ho : order x.text = true) (hk : x.kids = [a, b]) (ha : dI E res a) (hb : dI E res b) (yb : a.kind = 5 → a.kids ≠ []) (want : az) (h : bU B n c s f w E res j lo hi A C kv x) : aD Tryz.prog av 167 [.ptr c 0, .ptr j A.length, aT want] ⟨B, T⟩ (lK ((pG (aC E a) (aC E b) (gN a) x.text want).map fun r => (aP x [r.1, r.2.1], r.2.2)) j lo hi A C kv B T) := by
 obtain ⟨N, hn⟩ : ∃ N, B.length = N := ⟨_, rfl⟩
 obtain ⟨al, dA⟩ : ∃ a, A.length = a := ⟨_, rfl⟩
 obtain ⟨X, hX⟩ : ∃ X, A ++ aR x kv ++ C = X := ⟨_, rfl⟩
 obtain ⟨x0, x1, x2, x6, x7, x8, x9, j9, lM⟩ := cI hX.symm dA
 have aA := h.row
 rw [hX] at aA
 have gy := h.nl
 have hj : j < N := by have := h.nb; omega
 have dm : N + 1 < N + 2 := by omega
 have z8 := Ah (T := T) hk ha hb yb bO (h.more (J := [jt want, mz]))
 unfold pG
 rw [uj, wT, qw, if_neg (by decide), if_neg (by decide), if_neg (by decide), ho, if_pos rfl]
 have e5 : (decide (x.text = [60]) = true ∧ decide (x.text = [60]) = true ∧ decide (x.text = [60]) = true ∧ decide (x.text = [60]) = true) ∨ (decide (x.text = [60]) = false ∧ decide (x.text = [60, 61]) = true ∧ decide (x.text = [60, 61]) = true ∧ decide (x.text = [60, 61]) = true) ∨ (decide (x.text = [60]) = false ∧ decide (x.text = [60, 61]) = false ∧ decide (x.text = [62]) = true ∧ decide (x.text = [62]) = true) ∨ (decide (x.text = [60]) = false ∧ decide (x.text = [60, 61]) = false ∧ decide (x.text = [62]) = false ∧ decide (x.text = [62, 61]) = true) := by
  unfold order at ho
  simp only [eN] at ho
  revert ho
  cases decide (x.text = [60]) <;> cases decide (x.text = [60, 61]) <;> cases decide (x.text = [62]) <;> cases decide (x.text = [62, 61]) <;> decide
 unfold alike at qw
 unfold kE at uj
 unfold shift at wT
 rw [eN, eN, Bool.or_eq_false_iff] at uj wT qw
 obtain ⟨e1, e2⟩ := uj
 obtain ⟨e3, e4⟩ := wT
 obtain ⟨e9, eA⟩ := qw
 rw [dA] at z8 ⊢
 unfold aT jt mz at *
 rcases e5 with ⟨e5, e6, e7, e8⟩ | ⟨e5, e6, e7, e8⟩ | ⟨e5, e6, e7, e8⟩ | ⟨e5, e6, e7, e8⟩
 all_goals
  refine LN.go 160 rfl fun bh => ?_
  simp only [eI] at bh
  simp only [W, seval, bz, hn, hj, aA, x1, e1, e2, e3, e4, e9, eA, e5, e6, e7, e8]
  refine ag (cH _ _) ?_
  rintro _ _ ⟨rfl, rfl⟩
  unfold aT
  refine af.go 60 ?_
  simp only [W, seval, bz, hn]
  refine aQ z8 ?_
  intro v S' hv
  obtain ⟨B1, t, b0, rfl, rfl, aU, f1, ee, iM, lD⟩ := Ak hn h hv
  have dQ : N + 1 < B1.length := by omega
  have g4 : ∀ Z, (B1.set (N + 1) Z)[N + 1]? = some Z := fun Z => List.getElem?_set_self dQ
  unfold aT
  cases b0
  ·rw [iM rfl]
   refine af.go 60 ?_
   simp only [W, seval, bz, aU]
   refine ag (eY _ _) ?_
   rintro _ _ ⟨rfl, rfl⟩
   unfold aT
   refine af.go 60 ?_
   simp only [W, seval, bz, aU, f1, dm]
   refine ct (v := ?_) (u := ?_) Tryz.func167 (by rfl) ?_ ?_ ?_
   rotate_left 2
   ·try simp only [W, seval, bz, aU, dm, dQ, g4]
    exact rfl
   ·try simp only [W, seval, bz, aU, dm, dQ, g4]
    exact rfl
   refine an (ee _ _) ?_
   exact ⟨_, rfl, .none (ee _ _) rfl, bg, rfl⟩
  ·obtain ⟨a', b', hr, hdd⟩ := lD rfl
   rw [hr]
   dsimp only
   refine af.go 60 ?_
   simp only [W, seval, bz, aU]
   refine ag (eY _ _) ?_
   rintro _ _ ⟨rfl, rfl⟩
   unfold aT
   refine af.go 60 ?_
   simp only [W, seval, bz, aU]
   refine ag (eZ t _ _) ?_
   rintro _ _ ⟨rfl, rfl⟩
   refine af.go 60 ?_
   simp only [W, seval, bz, aU, f1, dm]
   refine ct (v := ?_) (u := ?_) Tryz.func167 (by rfl) ?_ ?_ ?_
   rotate_left 2
   ·try simp only [W, seval, bz, aU, dm, dQ, g4]
    exact rfl
   ·try simp only [W, seval, bz, aU, dm, dQ, g4]
    exact rfl
   refine an (ee _ _) ?_
   cases LP : jV t.kind
   ·rw [if_neg (by decide)]
    exact ⟨_, rfl, .none (ee _ _) rfl, bg, rfl⟩
   ·rw [if_pos rfl]
    exact ⟨_, rfl, hdd _ _, rfl⟩
set_option maxHeartbeats 8000000 in
theorem I2 {x a b : aj} (uj : kE x.text = false) (wT : shift x.text = false) (qw : alike x.text = false) (ho : order x.text = false) (hk : x.kids = [a, b]) (ha : dI E res a) (hb : dI E res b) (yb : a.kind = 5 → a.kids ≠ []) (want : az) (h : bU B n c s f w E res j lo hi A C kv x) : aD Tryz.prog av 167 [.ptr c 0, .ptr j A.length, aT want] ⟨B, T⟩ (lK ((pG (aC E a) (aC E b) (gN a) x.text want).map fun r => (aP x [r.1, r.2.1], r.2.2)) j lo hi A C kv B T) := by
 obtain ⟨N, hn⟩ : ∃ N, B.length = N := ⟨_, rfl⟩
 obtain ⟨al, dA⟩ : ∃ a, A.length = a := ⟨_, rfl⟩
 obtain ⟨X, hX⟩ : ∃ X, A ++ aR x kv ++ C = X := ⟨_, rfl⟩
 obtain ⟨x0, x1, x2, x6, x7, x8, x9, j9, lM⟩ := cI hX.symm dA
 have aA := h.row
 rw [hX] at aA
 have gy := h.nl
 have hj : j < N := by have := h.nb; omega
 have dm : N + 1 < N + 2 := by omega
 have z8 := Ah (T := T) hk ha hb yb want (h.more (J := [jt want, mz]))
 unfold pG
 rw [uj, wT, qw, if_neg (by decide), if_neg (by decide), if_neg (by decide), ho, if_neg (by decide)]
 obtain ⟨e5, e6, e7, e8⟩ : decide (x.text = [60]) = false ∧ decide (x.text = [60, 61]) = false ∧ decide (x.text = [62]) = false ∧ decide (x.text = [62, 61]) = false := by
  unfold order at ho
  simp only [eN, Bool.or_eq_false_iff] at ho
  exact ⟨ho.1.1.1, ho.1.1.2, ho.1.2, ho.2⟩
 unfold alike at qw
 unfold kE at uj
 unfold shift at wT
 rw [eN, eN, Bool.or_eq_false_iff] at uj wT qw
 obtain ⟨e1, e2⟩ := uj
 obtain ⟨e3, e4⟩ := wT
 obtain ⟨e9, eA⟩ := qw
 rw [dA] at z8 ⊢
 unfold aT jt mz at *
 refine LN.go 160 rfl fun bh => ?_
 simp only [eI] at bh
 simp only [W, seval, bz, hn, hj, aA, x1, e1, e2, e3, e4, e9, eA, e5, e6, e7, e8]
 refine aQ z8 ?_
 intro v S' hv
 obtain ⟨B1, t, b0, rfl, rfl, aU, f1, ee, iM, lD⟩ := Ak hn h hv
 have dQ : N + 1 < B1.length := by omega
 have g4 : ∀ Z, (B1.set (N + 1) Z)[N + 1]? = some Z := fun Z => List.getElem?_set_self dQ
 unfold aT
 cases b0
 ·rw [iM rfl]
  refine af.go 60 ?_
  simp only [W, seval, bz, aU]
  refine af.bp 7 [] [N + 2] (by kernel_rfl) (by kernel_rfl) (by kernel_rfl) (by kernel_rfl) (by kernel_rfl) (by kernel_rfl) (by kernel_rfl) ?_
  simp (maxSteps := 4000000) only [W, seval, bz, xw, aU, f1, dm]
  refine af.go 60 ?_
  simp only [W, seval, bz, aU]
  refine ct (v := ?_) (u := ?_) Tryz.func167 (by rfl) ?_ ?_ ?_
  rotate_left 2
  ·try simp only [W, seval, bz, aU, dm, dQ, g4]
   exact rfl
  ·try simp only [W, seval, bz, aU, dm, dQ, g4]
   exact rfl
  refine an (ee _ _) ?_
  exact ⟨_, rfl, .none (ee _ _) rfl, t, rfl⟩
 ·obtain ⟨a', b', hr, hdd⟩ := lD rfl
  rw [hr]
  dsimp only
  refine af.go 60 ?_
  simp only [W, seval, bz, aU]
  refine af.bp 7 [] [N + 2] (by kernel_rfl) (by kernel_rfl) (by kernel_rfl) (by kernel_rfl) (by kernel_rfl) (by kernel_rfl) (by kernel_rfl) ?_
  simp (maxSteps := 4000000) only [W, seval, bz, xw, aU, f1, dm]
  refine bf (fun Z => eZ t _ _) ?_
  simp (maxSteps := 4000000) only [W, seval, bz, xw, aU, f1, dm]
  refine af.go 60 ?_
  simp only [W, seval, bz, aU]
  refine ct (v := ?_) (u := ?_) Tryz.func167 (by rfl) ?_ ?_ ?_
  rotate_left 2
  ·try simp only [W, seval, bz, aU, dm, dQ, g4]
   exact rfl
  ·try simp only [W, seval, bz, aU, dm, dQ, g4]
   exact rfl
  refine an (ee _ _) ?_
  cases LP : jV t.kind
  ·rw [if_neg (by decide)]
   exact ⟨_, rfl, .none (ee _ _) rfl, t, rfl⟩
  ·rw [if_pos rfl]
   exact ⟨_, rfl, hdd _ _, rfl⟩
end
section
variable {E : bG} {res : List az} {n c s f w : Nat} {B : List (List V)} {T : List (Nat × Nat)} {j lo hi : Nat} {A C : List V} {kv : V}
set_option maxHeartbeats 8000000 in
theorem I3 {x a b : aj} (uj : kE x.text = true) (hk : x.kids = [a, b]) (ha : dI E res a) (hb : dI E res b) (want : az) (h : bU B n c s f w E res j lo hi A C kv x) : aD Tryz.prog av 167 [.ptr c 0, .ptr j A.length, aT want] ⟨B, T⟩ (lK ((pG (aC E a) (aC E b) (gN a) x.text want).map fun r => (aP x [r.1, r.2.1], r.2.2)) j lo hi A C kv B T) := by
 obtain ⟨N, hn⟩ : ∃ N, B.length = N := ⟨_, rfl⟩
 obtain ⟨al, dA⟩ : ∃ a, A.length = a := ⟨_, rfl⟩
 obtain ⟨X, hX⟩ : ∃ X, A ++ aR x kv ++ C = X := ⟨_, rfl⟩
 obtain ⟨x0, x1, x2, x6, x7, x8, x9, j9, lM⟩ := cI hX.symm dA
 have aA := h.row
 rw [hX] at aA
 have gy := h.nl
 have hj : j < N := by have := h.nb; omega
 have DA : j < N + 2 := by omega
 have dm : N + 1 < N + 2 := by omega
 obtain ⟨j1, m, cap, rfl, mB⟩ := h.bx (by rw [hk]; simp)
 have i0 : (0 : Int) < (m : Int) := by rw [mB, hk]; simp
 have i1 : (1 : Int) < (m : Int) := by rw [mB, hk]; simp
 obtain ⟨eC, dM, A1, C1, mc, a1, ⟨qc, tM⟩, k1, k2, k3⟩ := (h.more (J := [jt want, mz])).nC (k := 0) (y := a) (by rw [hk]; rfl)
 rw [Nat.zero_mul] at a1
 have hh := iJ (T := T) ha bg k1
 have bV := pH.ne (T := T) k1 bg
 rw [a1] at hh
 unfold pG
 rw [uj, if_pos rfl]
 have e5 : (decide (x.text = [38, 38]) = true ∧ decide (x.text = [38, 38]) = true) ∨ (decide (x.text = [38, 38]) = false ∧ decide (x.text = [124, 124]) = true) := by
  unfold kE at uj
  rw [eN, eN] at uj
  cases hd : decide (x.text = [38, 38])
  ·rw [hd, Bool.false_or] at uj; exact .inr ⟨rfl, uj⟩
  ·exact .inl ⟨rfl, rfl⟩
 rw [dA]
 unfold aT jt mz at *
 rcases e5 with ⟨e5, e6⟩ | ⟨e5, e6⟩
 all_goals
  refine LN.go 160 rfl fun bh => ?_
  simp only [eI] at bh
  simp only [W, seval, bz, hn, hj, aA, x1, e5, e6]
  refine af.bp 20 [] [j] (by kernel_rfl) (by kernel_rfl) (by kernel_rfl) (by kernel_rfl) (by kernel_rfl) (by kernel_rfl) (by kernel_rfl) ?_
  simp (maxSteps := 4000000) only [W, seval, bz, xw, ie, hn, hj, aA, x7, i0]
  refine bf (fun Z => eY _ _) ?_
  simp (maxSteps := 4000000) only [W, seval, bz, xw, ie, hn, hj, aA, x7, i0]
  refine bf (fun Z => eY _ _) ?_
  simp (maxSteps := 4000000) only [W, seval, bz, xw, ie, hn, hj, aA, x7, i0, aT]
  refine cz bV hh ?_
  rintro v _ ⟨B2, rfl, dU, rfl⟩
  have ic := dU.2.1
  simp only [List.length_append, List.length_cons, List.length_nil, hn, Nat.zero_add, Nat.reduceAdd] at ic
  have e3 : cm j lo hi B.length B B2 := cm.new.step (k2 _ _ dU.1)
  have g3 := h.pX (k2 _ _ dU.1) (i := N + 1) (by omega) (by simp [hn])
  rw [dx hn] at g3
  simp only [List.getElem?_cons_zero, List.getElem?_cons_succ] at g3
  have g1 : B2[j]? = (B ++ [[V.d (.int .i64 want.kind), .d (.str want.name), .d (.sl (want.elem.map ej))], [V.d (.int .i64 0), .d (.str []), .sl [] .full]])[j]? := dU.1.2.1 j (by simp; omega) tM
  have dQ : N + 1 < B2.length := by omega
  have IV : B2[j]? = some X := by rw [g1, ai (by omega)]; exact aA
  refine ⟨⟨g1, trivial⟩, ?_⟩
  cases hw : aV (aC E a bg) bg with
  | none =>
   simp (maxSteps := 4000000) only [W, seval, bz, xw, Option.isSome_none, ic, g3, dm]
   have e4 : ∀ Z, cm j lo hi B.length B (B2.set (N + 1) Z) := fun Z => e3.jh (by omega)
   have g4 : ∀ Z, (B2.set (N + 1) Z)[N + 1]? = some Z := fun Z => List.getElem?_set_self dQ
   have g6 : ∀ Z, (B2.set (N + 1) Z)[j]? = B2[j]? := fun Z => List.getElem?_set_ne (by omega)
   refine ⟨(g6 _).trans g1, (g6 _).trans g1, ?_⟩
   refine af.go 20 ?_
   simp only [W, seval, bz, ic]
   refine ct (v := ?_) (u := ?_) Tryz.func167 (by rfl) ?_ ?_ ?_
   rotate_left 2
   ·try simp only [W, seval, bz, ic, g4]
    exact rfl
   ·try simp only [W, seval, bz, ic, g4]
    exact rfl
   refine an (e4 _) ?_
   exact ⟨_, rfl, .none (e4 _) rfl, bg, rfl⟩
  | some z =>
   rw [hw] at dU
   have h9 := k3 B2 z dU
   rw [hk] at h9
   obtain ⟨lo3, hi3, A3, C3, kv3, a3, ⟨hj3, RR⟩, r1, r2, r3⟩ := h9.nC (k := 1) (y := b) (by rw [aO]; rfl)
   have RS := iJ (T := T) hb bg r1
   have a3 : A3.length = 8 := by omega
   rw [a3] at RS
   unfold aT at RS
   have RT := pH.ne (T := T) r1 bg
   simp (maxSteps := 4000000) only [W, seval, bz, xw, ie, Option.isSome_some, ic, g3, dm, DA, IV, x7, i1]
   refine bf (fun Z => eY _ _) ?_
   simp (maxSteps := 4000000) only [W, seval, bz, xw, ic, aT]
   refine ⟨g1, cz RT RS ?_⟩
   rintro v _ ⟨B3, rfl, yJ, rfl⟩
   have IZ := yJ.2.1
   rw [ic] at IZ
   have e5 := e3.step (r2 _ _ yJ.1)
   have k1 := (yJ.1.2.1 j (by omega) RR)
   have k3 := h9.pX (r2 _ _ yJ.1) (i := N + 1) (by omega) (by omega)
   rw [g3] at k3
   have U4 : N + 1 < B3.length := by omega
   have e4 : ∀ Z, cm j lo hi B.length B (B3.set (N + 1) Z) := fun Z => e5.jh (by omega)
   have g4 : ∀ Z, (B3.set (N + 1) Z)[N + 1]? = some Z := fun Z => List.getElem?_set_self U4
   have g6 : ∀ Z, (B3.set (N + 1) Z)[j]? = B3[j]? := fun Z => List.getElem?_set_ne (by omega)
   have k5 := k1.trans g1
   refine ⟨⟨k5, trivial⟩, ?_⟩
   simp (maxSteps := 4000000) only [W, seval, bz, xw, IZ, k3, dm]
   refine ⟨(g6 _).trans k5, (g6 _).trans k5, ?_⟩
   refine af.go 20 ?_
   simp only [W, seval, bz, IZ]
   refine ct (v := ?_) (u := ?_) Tryz.func167 (by rfl) ?_ ?_ ?_
   rotate_left 2
   ·try simp only [W, seval, bz, IZ, g4]
    exact rfl
   ·try simp only [W, seval, bz, IZ, g4]
    exact rfl
   refine an (e4 _) ?_
   cases U5 : aV (aC E b bg) bg with
   | none => exact ⟨_, rfl, .none (e4 _) rfl, bg, rfl⟩
   | some u =>
    rw [U5] at yJ
    have hA := r3 B3 u yJ
    rw [aO, eD] at hA
    exact ⟨_, rfl, hA.fin (e4 _) gy (fun i hi => List.getElem?_set_ne (by omega)) fun u hu => (Option.some.inj hu).symm, rfl⟩
set_option maxHeartbeats 8000000 in
theorem I4 {x a b : aj} (uj : kE x.text = false) (wT : shift x.text = true) (hk : x.kids = [a, b]) (ha : dI E res a) (hb : dI E res b) (want : az) (h : bU B n c s f w E res j lo hi A C kv x) : aD Tryz.prog av 167 [.ptr c 0, .ptr j A.length, aT want] ⟨B, T⟩ (lK ((pG (aC E a) (aC E b) (gN a) x.text want).map fun r => (aP x [r.1, r.2.1], r.2.2)) j lo hi A C kv B T) := by
 obtain ⟨N, hn⟩ : ∃ N, B.length = N := ⟨_, rfl⟩
 obtain ⟨al, dA⟩ : ∃ a, A.length = a := ⟨_, rfl⟩
 obtain ⟨X, hX⟩ : ∃ X, A ++ aR x kv ++ C = X := ⟨_, rfl⟩
 obtain ⟨x0, x1, x2, x6, x7, x8, x9, j9, lM⟩ := cI hX.symm dA
 have aA := h.row
 rw [hX] at aA
 have gy := h.nl
 have hj : j < N := by have := h.nb; omega
 have DA : j < N + 2 := by omega
 have dm : N + 1 < N + 2 := by omega
 obtain ⟨j1, m, cap, rfl, mB⟩ := h.bx (by rw [hk]; simp)
 have i0 : (0 : Int) < (m : Int) := by rw [mB, hk]; simp
 have i1 : (1 : Int) < (m : Int) := by rw [mB, hk]; simp
 obtain ⟨eC, dM, A1, C1, mc, a1, ⟨qc, tM⟩, k1, k2, k3⟩ := (h.more (J := [jt want, mz])).nC (k := 0) (y := a) (by rw [hk]; rfl)
 rw [Nat.zero_mul] at a1
 unfold pG
 rw [uj, if_neg (by decide), wT, if_pos rfl]
 have e5 : (decide (x.text = [60, 60]) = true ∧ decide (x.text = [60, 60]) = true) ∨ (decide (x.text = [60, 60]) = false ∧ decide (x.text = [62, 62]) = true) := by
  unfold shift at wT
  rw [eN, eN] at wT
  cases hd : decide (x.text = [60, 60])
  ·rw [hd, Bool.false_or] at wT; exact .inr ⟨rfl, wT⟩
  ·exact .inl ⟨rfl, rfl⟩
 unfold kE at uj
 rw [eN, eN, Bool.or_eq_false_iff] at uj
 obtain ⟨e1, e2⟩ := uj
 rw [dA]
 unfold jt mz at *
 unfold aT
 rcases e5 with ⟨e5, e6⟩ | ⟨e5, e6⟩
 all_goals
  refine LN.go 160 rfl fun bh => ?_
  simp only [eI] at bh
  simp only [W, seval, bz, hn, hj, aA, x1, e1, e2, e5, e6]
  refine af.bp 12 [11] [j, N] (by kernel_rfl) (by kernel_rfl) (by kernel_rfl) (by kernel_rfl) (by kernel_rfl) (by kernel_rfl) (by kernel_rfl) ?_
  simp (maxSteps := 4000000) only [W, seval, bz, xw, ie, hn, hj, aA, x7, i0]
  refine IY ha k1 want a1 ?_
  intro B1 t b0 hd aU lD iM
  simp only [List.length_append, List.length_cons, List.length_nil, hn, Nat.zero_add, Nat.reduceAdd] at aU
  have e3 : cm j lo hi B.length B B1 := cm.new.step (k2 _ _ hd.1)
  have f1 := h.pX (k2 _ _ hd.1) (i := N + 1) (by omega) (by simp [hn])
  rw [dx hn] at f1
  simp only [List.getElem?_cons_zero, List.getElem?_cons_succ] at f1
  have g1 : B1[j]? = (B ++ [[V.d (.int .i64 want.kind), .d (.str want.name), .d (.sl (want.elem.map ej))], [V.d (.int .i64 0), .d (.str []), .sl [] .full]])[j]? := hd.1.2.1 j (by simp; omega) tM
  have g2 := h.pX (k2 _ _ hd.1) (i := N) (by omega) (by simp [hn])
  have CC : B1[j]? = some X := by rw [g1, ai (by omega)]; exact aA
  have dQ : N + 1 < B1.length := by omega
  refine ⟨⟨g1, g2, trivial⟩, ?_⟩
  unfold aT
  simp (maxSteps := 4000000) only [W, seval, bz, xw, aU]
  refine ⟨⟨g1, g2⟩, ?_⟩
  cases b0
  ·have hr := iM rfl
   rw [hr]
   have e4 : ∀ Z J, cm j lo hi B.length B (B1.set (N + 1) Z ++ J) := fun Z J => (e3.jh (by omega)).app
   have g4 : ∀ Z, (B1.set (N + 1) Z)[N + 1]? = some Z := fun Z => List.getElem?_set_self dQ
   refine af.go 20 ?_
   simp only [W, seval, bz, aU]
   refine af.bp 17 [] [N + 2] (by kernel_rfl) (by kernel_rfl) (by kernel_rfl) (by kernel_rfl) (by kernel_rfl) (by kernel_rfl) (by kernel_rfl) ?_
   simp (maxSteps := 4000000) only [W, seval, bz, xw, aU, f1, dm]
   refine af.go 20 ?_
   simp only [W, seval, bz, aU]
   refine ct (v := ?_) (u := ?_) Tryz.func167 (by rfl) ?_ ?_ ?_
   rotate_left 2
   ·try simp only [W, seval, bz, aU, dm, dQ, g4]
    exact rfl
   ·try simp only [W, seval, bz, aU, dm, dQ, g4]
    exact rfl
   refine an (e4 _ _) ?_
   exact ⟨_, rfl, .none (e4 _ _) rfl, t, rfl⟩
  obtain ⟨y, hr⟩ := lD rfl
  rw [hr] at hd ⊢
  dsimp only
  have mg := k3 B1 y hd
  rw [hk] at mg
  cases LP : jV t.kind
  ·rw [if_neg (by decide)]
   have e4 : ∀ Z J, cm j lo hi B.length B (B1.set (N + 1) Z ++ J) := fun Z J => (e3.jh (by omega)).app
   have g4 : ∀ Z, (B1.set (N + 1) Z)[N + 1]? = some Z := fun Z => List.getElem?_set_self dQ
   refine af.go 20 ?_
   simp only [W, seval, bz, aU]
   refine af.bp 17 [] [N + 2] (by kernel_rfl) (by kernel_rfl) (by kernel_rfl) (by kernel_rfl) (by kernel_rfl) (by kernel_rfl) (by kernel_rfl) ?_
   simp (maxSteps := 4000000) only [W, seval, bz, xw, aU, f1, dm]
   refine bf (fun Z => eZ t _ _) ?_
   simp (maxSteps := 4000000) only [W, seval, bz, xw, aU, f1, dm, LP]
   refine af.go 20 ?_
   simp only [W, seval, bz, aU]
   refine ct (v := ?_) (u := ?_) Tryz.func167 (by rfl) ?_ ?_ ?_
   rotate_left 2
   ·try simp only [W, seval, bz, aU, dm, dQ, g4]
    exact rfl
   ·try simp only [W, seval, bz, aU, dm, dQ, g4]
    exact rfl
   refine an (e4 _ _) ?_
   exact ⟨_, rfl, .none (e4 _ _) rfl, t, rfl⟩
  rw [if_pos rfl]
  obtain ⟨LJ, LK, A2, C2, RM, a2, ⟨hj3, YO⟩, q1, q2, q3⟩ := (mg.more (J := [[V.d (.int .i64 t.kind), .d (.str t.name), .d (.sl (t.elem.map ej))]])).nC (k := 1) (y := b) (by rw [aO]; rfl)
  have hh := iJ (T := T) hb RE q1
  have a2 : A2.length = 8 := by omega
  rw [a2] at hh
  unfold aT at hh
  refine af.go 20 ?_
  simp only [W, seval, bz, aU]
  refine af.bp 17 [] [N + 2, j] (by kernel_rfl) (by kernel_rfl) (by kernel_rfl) (by kernel_rfl) (by kernel_rfl) (by kernel_rfl) (by kernel_rfl) ?_
  simp (maxSteps := 4000000) only [W, seval, bz, xw, aU, f1, dm, DA, CC]
  refine bf (fun Z => eZ t _ _) ?_
  simp (maxSteps := 4000000) only [W, seval, bz, xw, ie, aU, f1, dm, LP, DA, CC, x7, i1]
  refine bf (fun Z => IT _ _) ?_
  simp (maxSteps := 4000000) only [W, seval, bz, xw, aU, aT]
  refine cz (pH.ne (T := T) q1 RE) hh ?_
  rintro v _ ⟨B2, rfl, dU, rfl⟩
  have ic := dU.2.1
  simp only [List.length_append, List.length_cons, List.length_nil, aU, Nat.zero_add, Nat.reduceAdd] at ic
  have e4 : cm j lo hi B.length B B2 := e3.app.step (q2 _ _ dU.1)
  have p1 := mg.pX (q2 _ _ dU.1) (i := N + 1) (by omega) (by simp [aU])
  rw [ai (by omega), f1] at p1
  have p2 := mg.pX (q2 _ _ dU.1) (i := N + 2) (by omega) (by simp [aU])
  have p3 := dU.1.2.1 j (by simp; omega) YO
  have U4 : N + 1 < B2.length := by omega
  have LL : N + 1 < N + 3 := by omega
  have e6 : ∀ Z, cm j lo hi B.length B (B2.set (N + 1) Z) := fun Z => e4.jh (by omega)
  have g4 : ∀ Z, (B2.set (N + 1) Z)[N + 1]? = some Z := fun Z => List.getElem?_set_self U4
  have g5 : ∀ Z, (B2.set (N + 1) Z)[N + 2]? = B2[N + 2]? := fun Z => List.getElem?_set_ne (by omega)
  have g6 : ∀ Z, (B2.set (N + 1) Z)[j]? = B2[j]? := fun Z => List.getElem?_set_ne (by omega)
  refine ⟨⟨p2, p3, trivial⟩, ?_⟩
  simp (maxSteps := 4000000) only [W, seval, bz, xw, ic, p1, LL]
  refine ⟨⟨(g5 _).trans p2, (g6 _).trans p3⟩, ⟨(g5 _).trans p2, (g6 _).trans p3⟩, ?_⟩
  refine af.go 20 ?_
  simp only [W, seval, bz, ic]
  refine ct (v := ?_) (u := ?_) Tryz.func167 (by rfl) ?_ ?_ ?_
  rotate_left 2
  ·try simp only [W, seval, bz, ic, g4]
   exact rfl
  ·try simp only [W, seval, bz, ic, g4]
   exact rfl
  refine an (e6 _) ?_
  cases U5 : aV (aC E b RE) RE with
  | none => exact ⟨_, rfl, .none (e6 _) rfl, t, rfl⟩
  | some u =>
   rw [U5] at dU
   have hA := q3 B2 u dU
   rw [aO, eD] at hA
   exact ⟨_, rfl, hA.fin (e6 _) gy (fun i hi => List.getElem?_set_ne (by omega)) fun u hu => (Option.some.inj hu).symm, rfl⟩
end
def cq := by
 have c := aN Tryz.f135 (by conv => lhs; cbv)
 dsimp only [KK, fj, eR, eS, List.map_cons, List.map_nil, List.toList_toArray] at c
 exact c
theorem Al : bK Tryz.prog 135 Tryz.f135 123 := ⟨Tryz.func135, by kernel_rfl⟩
section
variable {E : bG} {res : List az} {n c s f w : Nat} {B : List (List V)} {T : List (Nat × Nat)} {j lo hi : Nat} {A C : List V} {kv : V}
theorem lK.pass {x : aj} {p q : List V} {N : Nat} (hn : B.length = N) (h : bU B n c s f w E res j lo hi A C kv x) {r : Option (aj × az)} {v : V} {S' : Mem} (ht : lK r j lo hi A C kv (B ++ [p, q]) T v S') :
 ∃ B1 t b0, v = .bZ [aT t, .d (.bool b0)] ∧ S' = ⟨B1, T⟩ ∧ N + 1 < B1.length ∧ B1[N + 1]? = some q ∧ ∀ Z, cm j lo hi B.length B (B1.set (N + 1) Z) ∧ lK r j lo hi A C kv B T (.bZ [aT t, .d (.bool b0)]) ⟨(B1.set (N + 1) Z).take B.length, T⟩ := by
 have gy := h.nl
 obtain ⟨B1, rfl, hd, hv⟩ := ht
 obtain ⟨t, b0, rfl, lD, iM⟩ := mR hv
 have aU := hd.2.1
 simp only [List.length_append, List.length_cons, List.length_nil, hn, Nat.zero_add, Nat.reduceAdd] at aU
 have e1 : cm j lo hi B.length B B1 := cm.new.step hd.1
 have f1 := h.pX hd.1 (i := N + 1) (by omega) (by simp [hn])
 rw [dx hn] at f1
 simp only [List.getElem?_cons_zero, List.getElem?_cons_succ] at f1
 have e2 : ∀ Z, cm j lo hi B.length B (B1.set (N + 1) Z) := fun Z => e1.jh (by omega)
 refine ⟨B1, t, b0, rfl, rfl, by omega, f1, fun Z => ⟨e2 Z, _, rfl, ?_, hv⟩⟩
 cases r with
 | none => exact .none (e2 Z) rfl
 | some u => exact (h.more.done hd).fin (e2 Z) gy (fun i hi => List.getElem?_set_ne (by omega)) fun z hz => (Option.some.inj hz).symm
set_option maxHeartbeats 8000000 in
theorem OM {x : aj} (hx : x.kind = 3) (want : az) (h : bU B n c s f w E res j lo hi A C kv x) : aD Tryz.prog av 135 [.ptr c 0, .ptr j A.length, aT want] ⟨B, T⟩ (lK (some (x, bg)) j lo hi A C kv B T) := by
 obtain ⟨N, hn⟩ : ∃ N, B.length = N := ⟨_, rfl⟩
 obtain ⟨al, dA⟩ : ∃ a, A.length = a := ⟨_, rfl⟩
 obtain ⟨X, hX⟩ : ∃ X, A ++ aR x kv ++ C = X := ⟨_, rfl⟩
 obtain ⟨x0, x1, x2, x6, x7, x8, x9, j9, lM⟩ := cI hX.symm dA
 have aA := h.row
 rw [hX] at aA
 rw [hx] at x0
 have gy := h.nl
 have hj : j < N := by have := h.nb; omega
 have en : ∀ J, cm j lo hi B.length B (B ++ J) := fun _ => cm.new
 rw [dA]
 unfold aT
 refine Al.go 160 rfl fun bh => ?_
 simp only [eI] at bh
 simp only [W, seval, cq, hn, hj, aA, x0, Int.reduceEq, decide_true]
 refine ag (eY _ _) ?_
 rintro _ _ ⟨rfl, rfl⟩
 unfold aT
 refine af.go 60 ?_
 simp only [W, seval, cq, hn]
 refine ct (v := ?_) (u := ?_) Tryz.func135 (by rfl) ?_ ?_ ?_
 rotate_left 2
 ·try simp only [W, seval, cq, hn]
  exact rfl
 ·try simp only [W, seval, cq, hn]
  exact rfl
 refine an (en _) ?_
 exact ⟨_, rfl, h.fin (en _) gy (fun i hi => ai (by omega)) fun z hz => (Option.some.inj hz).symm, rfl⟩
set_option maxHeartbeats 8000000 in
theorem ON {x : aj} (hx : x.kind = 1) (want : az) (h : bU B n c s f w E res j lo hi A C kv x) : aD Tryz.prog av 135 [.ptr c 0, .ptr j A.length, aT want] ⟨B, T⟩ (lK ((fD bI.name E.vs x.text).map fun p => (x, p.type)) j lo hi A C kv B T) := by
 obtain ⟨N, hn⟩ : ∃ N, B.length = N := ⟨_, rfl⟩
 obtain ⟨al, dA⟩ : ∃ a, A.length = a := ⟨_, rfl⟩
 obtain ⟨X, hX⟩ : ∃ X, A ++ aR x kv ++ C = X := ⟨_, rfl⟩
 obtain ⟨x0, x1, x2, x6, x7, x8, x9, j9, lM⟩ := cI hX.symm dA
 have aA := h.row
 rw [hX] at aA
 rw [hx] at x0
 have gy := h.nl
 have hj : j < N := by have := h.nb; omega
 have en : ∀ J, cm j lo hi B.length B (B ++ J) := fun _ => cm.new
 have wo : c < N := by rw [← hn]; exact h.k.lt.1
 have Kn : w < N := by rw [← hn]; exact h.k.lt.2.2.2
 have U6 := h.k.w
 have hb := h.k.c
 unfold xF at hb
 have hs := h.k.fW x.text true
 rw [dA]
 unfold aT
 cases h1 : fD bI.name E.vs x.text <;> rw [h1] at hs <;> simp only [Go.Ab.fW, Option.map_some, Option.map_none, if_true, WE, aT] at hs
 ·refine Al.go 160 rfl fun bh => ?_
  simp only [eI] at bh
  simp only [W, seval, cq, hn, hj, aA, x0, Int.reduceEq, decide_true, decide_false]
  refine af.bp 13 [] [c, w, j] (by kernel_rfl) (by kernel_rfl) (by kernel_rfl) (by kernel_rfl) (by kernel_rfl) (by kernel_rfl) (by kernel_rfl) ?_
  simp (maxSteps := 4000000) only [W, seval, cq, xw, nG, hn, wo, hb, hs, Kn, U6, hj, aA, x1]
  refine af.go 60 ?_
  simp only [W, seval, cq, hn]
  refine ct (v := ?_) (u := ?_) Tryz.func135 (by rfl) ?_ ?_ ?_
  rotate_left 2
  ·try simp only [W, seval, cq, hn]
   exact rfl
  ·try simp only [W, seval, cq, hn]
   exact rfl
  refine an (en _) ?_
  exact ⟨_, rfl, .none (en _) rfl, bO, rfl⟩
 ·refine Al.go 160 rfl fun bh => ?_
  simp only [eI] at bh
  simp only [W, seval, cq, hn, hj, aA, x0, Int.reduceEq, decide_true, decide_false]
  refine af.bp 13 [] [c, w, j] (by kernel_rfl) (by kernel_rfl) (by kernel_rfl) (by kernel_rfl) (by kernel_rfl) (by kernel_rfl) (by kernel_rfl) ?_
  simp (maxSteps := 4000000) only [W, seval, cq, xw, nG, hn, wo, hb, hs, Kn, U6, hj, aA, x1]
  refine af.go 60 ?_
  simp only [W, seval, cq, hn]
  refine ct (v := ?_) (u := ?_) Tryz.func135 (by rfl) ?_ ?_ ?_
  rotate_left 2
  ·try simp only [W, seval, cq, hn]
   exact rfl
  ·try simp only [W, seval, cq, hn]
   exact rfl
  refine an (en _) ?_
  exact ⟨_, rfl, h.fin (en _) gy (fun i hi => ai (by omega)) fun z hz => (Option.some.inj hz).symm, rfl⟩
set_option maxHeartbeats 8000000 in
theorem OO {x : aj} (hx : x.kind = 6) {r : Option (aj × az)} (want : az) (h : bU B n c s f w E res j lo hi A C kv x) (hf : ∀ p q, aD Tryz.prog av 167 [.ptr c 0, .ptr j A.length, aT want] ⟨B ++ [p, q], T⟩ (lK r j lo hi A C kv (B ++ [p, q]) T)) : aD Tryz.prog av 135 [.ptr c 0, .ptr j A.length, aT want] ⟨B, T⟩ (lK r j lo hi A C kv B T) := by
 obtain ⟨N, hn⟩ : ∃ N, B.length = N := ⟨_, rfl⟩
 obtain ⟨al, dA⟩ : ∃ a, A.length = a := ⟨_, rfl⟩
 obtain ⟨X, hX⟩ : ∃ X, A ++ aR x kv ++ C = X := ⟨_, rfl⟩
 obtain ⟨x0, x1, x2, x6, x7, x8, x9, j9, lM⟩ := cI hX.symm dA
 have aA := h.row
 rw [hX] at aA
 rw [hx] at x0
 have hj : j < N := by have := h.nb; have := h.nl; omega
 rw [dA] at hf ⊢
 unfold aT at hf ⊢
 refine Al.go 160 rfl fun bh => ?_
 simp only [eI] at bh
 simp only [W, seval, cq, hn, hj, aA, x0, Int.reduceEq, decide_true, decide_false]
 refine aQ (hf _ _) ?_
 intro v S' hv
 obtain ⟨B1, t, b0, rfl, rfl, hl, f1, ee⟩ := lK.pass hn h hv
 unfold aT at ee ⊢
 refine af.go 60 ?_
 simp only [W, seval, cq, hl, f1]
 refine ct (v := ?_) (u := ?_) Tryz.func135 (by rfl) ?_ ?_ ?_
 rotate_left 2
 ·try simp only [W, seval, cq, hl]
  exact rfl
 ·try simp only [W, seval, cq, hl]
  exact rfl
 refine an (ee _).1 ?_
 exact (ee _).2
set_option maxHeartbeats 8000000 in
theorem uF {x : aj} (hx : x.kind = 10 ∨ x.kind = 11 ∨ x.kind = 12 ∨ x.kind = 13) {r : Option (aj × az)} (want : az) (h : bU B n c s f w E res j lo hi A C kv x) (hf : ∀ p q, aD Tryz.prog av 169 [.ptr c 0, .ptr j A.length, aT want] ⟨B ++ [p, q], T⟩ (lK r j lo hi A C kv (B ++ [p, q]) T)) : aD Tryz.prog av 135 [.ptr c 0, .ptr j A.length, aT want] ⟨B, T⟩ (lK r j lo hi A C kv B T) := by
 obtain ⟨N, hn⟩ : ∃ N, B.length = N := ⟨_, rfl⟩
 obtain ⟨al, dA⟩ : ∃ a, A.length = a := ⟨_, rfl⟩
 obtain ⟨X, hX⟩ : ∃ X, A ++ aR x kv ++ C = X := ⟨_, rfl⟩
 obtain ⟨x0, x1, x2, x6, x7, x8, x9, j9, lM⟩ := cI hX.symm dA
 have aA := h.row
 rw [hX] at aA
 have hj : j < N := by have := h.nb; have := h.nl; omega
 rw [dA] at hf ⊢
 unfold aT at hf ⊢
 rcases hx with hx | hx | hx | hx
 all_goals
  rw [hx] at x0
  refine Al.go 160 rfl fun bh => ?_
  simp only [eI] at bh
  simp only [W, seval, cq, hn, hj, aA, x0, Int.reduceEq, decide_true, decide_false]
  refine aQ (hf _ _) ?_
  intro v S' hv
  obtain ⟨B1, t, b0, rfl, rfl, hl, f1, ee⟩ := lK.pass hn h hv
  unfold aT at ee ⊢
  refine af.go 60 ?_
  simp only [W, seval, cq, hl, f1]
  refine ct (v := ?_) (u := ?_) Tryz.func135 (by rfl) ?_ ?_ ?_
  rotate_left 2
  ·try simp only [W, seval, cq, hl]
   exact rfl
  ·try simp only [W, seval, cq, hl]
   exact rfl
  refine an (ee _).1 ?_
  exact (ee _).2
set_option maxHeartbeats 8000000 in
theorem Gy {x : aj} (hx : x.kind = 14 ∨ x.kind = 15) {r : Option (aj × az)} (want : az) (h : bU B n c s f w E res j lo hi A C kv x) (hf : ∀ p q, aD Tryz.prog av 170 [.ptr c 0, .ptr j A.length] ⟨B ++ [p, q], T⟩ (lK r j lo hi A C kv (B ++ [p, q]) T)) : aD Tryz.prog av 135 [.ptr c 0, .ptr j A.length, aT want] ⟨B, T⟩ (lK r j lo hi A C kv B T) := by
 obtain ⟨N, hn⟩ : ∃ N, B.length = N := ⟨_, rfl⟩
 obtain ⟨al, dA⟩ : ∃ a, A.length = a := ⟨_, rfl⟩
 obtain ⟨X, hX⟩ : ∃ X, A ++ aR x kv ++ C = X := ⟨_, rfl⟩
 obtain ⟨x0, x1, x2, x6, x7, x8, x9, j9, lM⟩ := cI hX.symm dA
 have aA := h.row
 rw [hX] at aA
 have hj : j < N := by have := h.nb; have := h.nl; omega
 rw [dA] at hf ⊢
 unfold aT
 rcases hx with hx | hx
 all_goals
  rw [hx] at x0
  refine Al.go 160 rfl fun bh => ?_
  simp only [eI] at bh
  simp only [W, seval, cq, hn, hj, aA, x0, Int.reduceEq, decide_true, decide_false]
  refine aQ (hf _ _) ?_
  intro v S' hv
  obtain ⟨B1, t, b0, rfl, rfl, hl, f1, ee⟩ := lK.pass hn h hv
  unfold aT at ee ⊢
  refine af.go 60 ?_
  simp only [W, seval, cq, hl, f1]
  refine ct (v := ?_) (u := ?_) Tryz.func135 (by rfl) ?_ ?_ ?_
  rotate_left 2
  ·try simp only [W, seval, cq, hl]
   exact rfl
  ·try simp only [W, seval, cq, hl]
   exact rfl
  refine an (ee _).1 ?_
  exact (ee _).2
set_option maxHeartbeats 8000000 in
theorem rQ {x : aj} (hx : x.kind = 2 ∨ x.kind = 4 ∨ x.kind = 5 ∨ x.kind = 8) (yb : x.kind = 5 → x.kids ≠ []) {r : Option (aj × az)} (want : az) (h : bU B n c s f w E res j lo hi A C kv x) (hf : ∀ p q, if gN x = true then aD Tryz.prog av 172 [.ptr j A.length, aT want] ⟨B ++ [p, q], T⟩ (lK r j lo hi A C kv (B ++ [p, q]) T) else aD Tryz.prog av 173 [.ptr c 0, .ptr j A.length, aT want] ⟨B ++ [p, q], T⟩ (lK r j lo hi A C kv (B ++ [p, q]) T)) : aD Tryz.prog av 135 [.ptr c 0, .ptr j A.length, aT want] ⟨B, T⟩ (lK r j lo hi A C kv B T) := by
 obtain ⟨N, hn⟩ : ∃ N, B.length = N := ⟨_, rfl⟩
 obtain ⟨al, dA⟩ : ∃ a, A.length = a := ⟨_, rfl⟩
 obtain ⟨X, hX⟩ : ∃ X, A ++ aR x kv ++ C = X := ⟨_, rfl⟩
 obtain ⟨x0, x1, x2, x6, x7, x8, x9, j9, lM⟩ := cI hX.symm dA
 have aA := h.row
 rw [hX] at aA
 have hj : j < N := by have := h.nb; have := h.nl; omega
 rw [dA] at hf ⊢
 unfold aT at hf ⊢
 have MH := fun J => E0 yb (h.more (J := J)).own T
 rcases hx with hx | hx | hx | hx
 all_goals
  rw [hx] at x0
  refine Al.go 160 rfl fun bh => ?_
  simp only [eI] at bh
  simp only [W, seval, cq, hn, hj, aA, x0, x8, x9, Int.reduceEq, decide_true, decide_false]
  refine aQ (MH _) ?_
  rintro _ _ ⟨rfl, rfl⟩
  cases OC : gN x
  ·simp only [OC, Bool.false_eq_true, if_false] at hf
   refine af.go 60 ?_
   simp only [W, seval, cq, hn]
   refine aQ (hf _ _) ?_
   intro v S' hv
   obtain ⟨B1, t, b0, rfl, rfl, hl, f1, ee⟩ := lK.pass hn h hv
   unfold aT at ee ⊢
   refine af.go 60 ?_
   simp only [W, seval, cq, hl, f1]
   refine ct (v := ?_) (u := ?_) Tryz.func135 (by rfl) ?_ ?_ ?_
   rotate_left 2
   ·try simp only [W, seval, cq, hl]
    exact rfl
   ·try simp only [W, seval, cq, hl]
    exact rfl
   refine an (ee _).1 ?_
   exact (ee _).2
  ·simp only [OC, if_true] at hf
   refine af.go 60 ?_
   simp only [W, seval, cq, hn]
   refine aQ (hf _ _) ?_
   intro v S' hv
   obtain ⟨B1, t, b0, rfl, rfl, hl, f1, ee⟩ := lK.pass hn h hv
   unfold aT at ee ⊢
   refine af.go 60 ?_
   simp only [W, seval, cq, hl, f1]
   refine ct (v := ?_) (u := ?_) Tryz.func135 (by rfl) ?_ ?_ ?_
   rotate_left 2
   ·try simp only [W, seval, cq, hl]
    exact rfl
   ·try simp only [W, seval, cq, hl]
    exact rfl
   refine an (ee _).1 ?_
   exact (ee _).2
end
theorem Oz.of {r : Option (aj × az)} {v : V} (y : aj) (t : az) (b : Bool) (hv : v = .bZ [ry y, aT t, .d (.bool b)]) (h : r = if b = true then some (y, t) else none) : Oz r v := by
 subst h hv
 cases b
 ·exact ⟨y, t, rfl⟩
 ·rfl
theorem EX.ne (r : Option az) : ∃ v, EX r v := by
 cases r <;> exact ⟨_, rfl⟩
theorem OP (t : List UInt8) (h : 0 < jO t) : (kE t = true ∧ jO t ≤ 2) ∨ (kE t = false ∧ shift t = false ∧ jO t = 3 ∧ (alike t = true ∨ alike t = false ∧ order t = true)) ∨ (kE t = false ∧ shift t = true ∧ 3 < jO t) ∨ (kE t = false ∧ shift t = false ∧ alike t = false ∧ order t = false ∧ 3 < jO t) := by
 rcases N0 t with ⟨x, hx, rfl⟩ | h'
 ·simp only [vB, List.mem_cons, List.not_mem_nil, or_false] at hx
  rcases hx with rfl | rfl | rfl | rfl | rfl | rfl | rfl | rfl | rfl | rfl | rfl | rfl | rfl | rfl | rfl | rfl | rfl | rfl
  all_goals decide
 ·exfalso
  have : jO t = 0 := by
   unfold jO
   rw [List.find?_eq_none.2 fun x hx e => by
    have h1 := h' x hx
    rw [beq_eq_false_iff_ne] at h1
    exact h1 (eq_of_beq e).symm]
   rfl
  omega
section
variable {E : bG} {res : List az} {c : Nat} {B : List (List V)} {T : List (Nat × Nat)}
end
def qx (E : bG) (l : List aj) (t : az) : Option (List aj) := bA E l (List.replicate l.length t)
theorem E6 (E : bG) (t : az) : qx E [] t = some [] := by
 unfold qx bA; rfl
theorem CJ (E : bG) (x : aj) (l : List aj) (t : az) : qx E (x :: l) t = match aV (aC E x t) t with
 | some y => (qx E l t).map fun l => y :: l
 | none => none := by
 unfold qx
 rw [List.length_cons, List.replicate_succ]
 conv => lhs; unfold bA
 rfl
section
variable {E : bG} {res : List az} {c : Nat} {B : List (List V)} {T : List (Nat × Nat)}
end
inductive r9 : aj → Prop
 | mk (x : aj) : x.kids.length ≤ 30000 → (∀ y ∈ x.kids, r9 y) → r9 x
theorem r9.len {x : aj} (h : r9 x) : x.kids.length ≤ 30000 := by cases h; assumption
theorem r9.pV {x : aj} (h : r9 x) : ∀ y ∈ x.kids, r9 y := by cases h; assumption
section
variable (E : bG) (w : az)
theorem wu (t : List UInt8) : aC E (.mk 1 t 0 bO [] []) w = (fD bI.name E.vs t).map fun p => (.mk 1 t 0 bO [] [], p.type) := by
 unfold aC; rw [if_neg (by decide), if_pos rfl]
theorem CK (i : Int) : aC E (.mk 2 [] i bO [] []) w = if iD w.kind = 0 ∨ iD w.kind < i then none else some (.mk 2 [] i w [] [], w) := by
 unfold aC
 rw [if_neg (by decide), if_neg (by decide), if_neg (by decide), if_neg (by decide), if_neg (by decide), if_neg (by decide), if_neg (by decide), if_neg (by decide), if_neg (by decide), if_neg (by decide), if_neg (by decide), if_pos (show gN (.mk 2 [] i bO [] []) = true from rfl)]
 rfl
theorem CL (i : Int) : aC E (.mk 3 [] i bO [] []) w = some (.mk 3 [] i bO [] [], bg) := by
 unfold aC; rw [if_pos rfl]
theorem CM (y : aj) : aC E (.mk 4 [] 0 bO [] [y]) w = (aV (aC E y bg) bg).map fun a => (.mk 4 [] 0 bO [] [a], bg) := by
 conv => lhs; unfold aC
 rw [if_neg (by decide), if_neg (by decide), if_neg (by decide), if_neg (by decide), if_neg (by decide), if_neg (by decide), if_neg (by decide), if_neg (by decide), if_neg (by decide), if_neg (by decide), if_neg (by decide), if_neg (by simp [gN]), if_pos rfl]
theorem CN (y : aj) (hy : y.kind ≠ 2) : aC E (.mk 5 [] 0 bO [] [y]) w = match aC E y w with
 | some (a, t) => if jV t.kind = true then some (.mk 5 [] 0 bO [] [a], t) else none
 | none => none := by
 conv => lhs; unfold aC
 rw [if_neg (by decide), if_neg (by decide), if_neg (by decide), if_neg (by decide), if_neg (by decide), if_neg (by decide), if_neg (by decide), if_neg (by decide), if_neg (by decide), if_neg (by decide), if_neg (by decide), if_neg (by simp [gN, hy]), if_neg (by decide), if_pos rfl]
 rfl
theorem yK (y : aj) (hy : y.kind = 2) : aC E (.mk 5 [] 0 bO [] [y]) w = if (w.kind = 3 ∨ w.kind = 4) ∧ y.int ≤ iD w.kind + 1 then some (.mk 5 [] 0 bO [] [setType y w], w) else none := by
 conv => lhs; unfold aC
 rw [if_neg (by decide), if_neg (by decide), if_neg (by decide), if_neg (by decide), if_neg (by decide), if_neg (by decide), if_neg (by decide), if_neg (by decide), if_neg (by decide), if_neg (by decide), if_neg (by decide), if_pos (by simp [gN, hy])]
 rfl
theorem CO (t : List UInt8) (a b : aj) : aC E (.mk 6 t 0 bO [] [a, b]) w = (pG (aC E a) (aC E b) (gN a) t w).map fun r => (.mk 6 t 0 bO [] [r.1, r.2.1], r.2.2) := by
 conv => lhs; unfold aC
 rw [if_neg (by decide), if_neg (by decide), if_pos rfl]
theorem CP (t : List UInt8) (ks : List aj) : aC E (.mk 7 t 0 bO [] ks) w = match mb E (.mk 7 t 0 bO [] ks) with
 | some (y, [t]) => some (y, t)
 | _ => none := by
 conv => lhs; unfold aC
 rw [if_neg (by decide), if_neg (by decide), if_neg (by decide), if_pos rfl]
 unfold mb
 dsimp only [aj.text, aj.kids]
 cases vX (fD cR.name E.fu t) (bA E ks) with
 | none => rfl
 | some r =>
  obtain ⟨l, ts⟩ := r
  match ts with
  | [] => rfl
  | [t] => rfl
  | _ :: _ :: _ => rfl
theorem CQ (k : Int) (y : aj) : aC E (.mk 8 [] 0 (.mk k [] []) [] [y]) w = if gN y = true then (aV (aC E y (.mk k [] [])) (.mk k [] [])).map fun a => (.mk 8 [] 0 (.mk k [] []) [] [a], .mk k [] []) else match aC E y bO with
 | some (a, t) => if jV t.kind = true then some (.mk 8 [] 0 (.mk k [] []) [] [a], .mk k [] []) else none
 | none => none := by
 conv => lhs; unfold aC
 rw [if_neg (by decide), if_neg (by decide), if_neg (by decide), if_neg (by decide), if_neg (by decide), if_neg (by decide), if_neg (by decide), if_neg (by decide), if_neg (by decide), if_neg (by decide), if_neg (by decide), if_neg (by simp [gN]), if_neg (by decide), if_neg (by decide)]
 rfl
theorem wv (t : List UInt8) (y : aj) : aC E (.mk 9 t 0 bO [] [y]) w = match aC E y bO with
 | some (a, u) => (kD E.su u t).map fun f => (.mk 9 t 0 bO [] [a], f)
 | none => none := by
 conv => lhs; unfold aC
 rw [if_neg (by decide), if_neg (by decide), if_neg (by decide), if_neg (by decide), if_pos rfl]
 rfl
theorem CR (a b : aj) : aC E (.mk 10 [] 0 bO [] [a, b]) w = match aC E a bO with
 | some (a, t) => (gm t).bind fun e => (aV (aC E b bS) bS).map fun b => (.mk 10 [] 0 bO [] [a, b], e)
 | none => none := by
 conv => lhs; unfold aC
 rw [if_neg (by decide), if_neg (by decide), if_neg (by decide), if_neg (by decide), if_neg (by decide), if_neg (by decide), if_pos rfl]
 rfl
theorem CS (a b c : aj) : aC E (.mk 11 [] 0 bO [] [a, b, c]) w = match aC E a bO with
 | some (a, t) => (gm t).bind fun _ => (aV (aC E b bS) bS).bind fun b => (aV (aC E c bS) bS).map fun c => (.mk 11 [] 0 bO [] [a, b, c], t)
 | none => none := by
 conv => lhs; unfold aC
 rw [if_neg (by decide), if_neg (by decide), if_neg (by decide), if_neg (by decide), if_neg (by decide), if_neg (by decide), if_neg (by decide), if_pos rfl]
 rfl
theorem CT (a : aj) : aC E (.mk 12 [] 0 bO [] [a]) w = match aC E a bO with
 | some (a, t) => (gm t).map fun _ => (.mk 12 [] 0 bO [] [a], bS)
 | none => none := by
 conv => lhs; unfold aC
 rw [if_neg (by decide), if_neg (by decide), if_neg (by decide), if_neg (by decide), if_neg (by decide), if_pos rfl]
 rfl
theorem CU (a b : aj) : aC E (.mk 13 [] 0 bO [] [a, b]) w = match aC E a w with
 | some (a, t) => (gm t).bind fun e => (aV (aC E b e) e).map fun b => (.mk 13 [] 0 bO [] [a, b], t)
 | none => none := by
 conv => lhs; unfold aC
 rw [if_neg (by decide), if_neg (by decide), if_neg (by decide), if_neg (by decide), if_neg (by decide), if_neg (by decide), if_neg (by decide), if_neg (by decide), if_pos rfl]
 rfl
theorem CV (n : List UInt8) (ns : List (List UInt8)) (ks : List aj) : aC E (.mk 14 [] 0 (.mk 7 n []) ns ks) w = if bP E.su (.mk 7 n []) = true then ((ns.mapM (kD E.su (.mk 7 n []))).bind (bA E ks)).map fun l => (.mk 14 [] 0 (.mk 7 n []) ns l, .mk 7 n []) else none := by
 conv => lhs; unfold aC
 rw [if_neg (by decide), if_neg (by decide), if_neg (by decide), if_neg (by decide), if_neg (by decide), if_neg (by decide), if_neg (by decide), if_neg (by decide), if_neg (by decide), if_pos rfl]
theorem CW (t : az) (ks : List aj) : aC E (.mk 15 [] 0 (.mk 8 [] [t]) [] ks) w = if bP E.su (.mk 8 [] [t]) = true then (qx E ks t).map fun l => (.mk 15 [] 0 (.mk 8 [] [t]) [] l, .mk 8 [] [t]) else none := by
 conv => lhs; unfold aC
 rw [if_neg (by decide), if_neg (by decide), if_neg (by decide), if_neg (by decide), if_neg (by decide), if_neg (by decide), if_neg (by decide), if_neg (by decide), if_neg (by decide), if_neg (by decide), if_pos rfl]
 rfl
end
structure RV (E : bG) : Prop where
 t : nx E.su E.fu
 v : ∀ p ∈ E.vs, TW p.type
theorem oW {α : Type} (nm : α → List UInt8) : ∀ {l : List α} {n : List UInt8} {x : α}, fD nm l n = some x → x ∈ l
 | [], _, _, h => by cases h
 | y :: l, n, x, h => by
  unfold fD at h
  split at h
  ·rw [Option.some.inj h]; exact List.mem_cons_self
  ·exact List.mem_cons_of_mem _ (oW nm h)
theorem LQ {E : bG} (hE : RV E) {t : az} {n : List UInt8} {f : az} (h : kD E.su t n = some f) : TW f := by
 unfold kD at h
 split at h
 case isFalse => cases h
 split at h
 case h_2 => cases h
 rename_i s hs
 obtain ⟨p, hp, rfl⟩ := Option.map_eq_some_iff.1 h
 exact (hE.t.fl s (oW _ hs)).2 p (oW _ hp)
theorem OQ {t e : az} (ht : TW t) (h : gm t = some e) : TW e := by
 unfold gm at h
 split at h
 case isFalse => cases h
 rename_i h8
 cases ht with
 | leaf k n es hk => exact absurd h8 hk
 | sl n u hu => obtain rfl : u = e := Option.some.inj h; exact hu
theorem LR {t : az} (h : iD t.kind ≠ 0) : TW t := by
 obtain ⟨k, n, es⟩ := t
 refine .leaf k n es fun e => h ?_
 rw [show (az.mk k n es).kind = k from rfl, e]; rfl
theorem OR {fa fb : az → Option (aj × az)} (ha : ∀ w y t, fa w = some (y, t) → TW t) (hb : ∀ w y t, fb w = some (y, t) → TW t) {la : Bool} {w : az} {a b : aj} {t : az} (h : rE fa fb la w = some (a, b, t)) : TW t := by
 unfold rE at h
 split at h
 ·split at h
  case h_2 => cases h
  rename_i y u hy
  obtain ⟨z, hz, e⟩ := Option.map_eq_some_iff.1 h
  obtain ⟨_, _, rfl⟩ := by simpa using e
  exact hb _ _ _ hy
 ·split at h
  case h_2 => cases h
  rename_i y u hy
  obtain ⟨z, hz, e⟩ := Option.map_eq_some_iff.1 h
  obtain ⟨_, _, rfl⟩ := by simpa using e
  exact ha _ _ _ hy
theorem rR : TW bg := .leaf 1 _ _ (by decide)
theorem RW : TW bS := .leaf 4 _ _ (by decide)
theorem RX {fa fb : az → Option (aj × az)} (ha : ∀ w y t, fa w = some (y, t) → TW t) (hb : ∀ w y t, fb w = some (y, t) → TW t) {la : Bool} {tx : List UInt8} {w : az} {a b : aj} {t : az} (h : pG fa fb la tx w = some (a, b, t)) : TW t := by
 unfold pG at h
 split at h
 ·split at h
  ·obtain ⟨_, _, rfl⟩ := by simpa using h
   exact rR
  ·cases h
 split at h
 ·split at h
  case h_2 => cases h
  rename_i y u hy
  split at h
  case isFalse => cases h
  obtain ⟨z, hz, e⟩ := Option.map_eq_some_iff.1 h
  obtain ⟨_, _, rfl⟩ := by simpa using e
  exact ha _ _ _ hy
 split at h
 ·split at h
  case h_2 => cases h
  split at h
  case isFalse => cases h
  obtain ⟨_, _, rfl⟩ := by simpa using h
  exact rR
 split at h
 ·split at h
  case h_2 => cases h
  split at h
  case isFalse => cases h
  obtain ⟨_, _, rfl⟩ := by simpa using h
  exact rR
 ·split at h
  case h_2 => cases h
  rename_i y z u hy
  split at h
  case isFalse => cases h
  obtain ⟨_, _, rfl⟩ := by simpa using h
  exact OR ha hb hy
theorem Am {E : bG} (hE : RV E) {d : Int} {x : aj} (hx : jE d x) : ∀ w y t, aC E x w = some (y, t) → TW t := by
 induction hx with
 | JE d s h1 h2 =>
  intro w y t h
  rw [wu] at h
  obtain ⟨p, hp, e⟩ := Option.map_eq_some_iff.1 h
  obtain ⟨_, rfl⟩ := Prod.mk.inj e
  exact hE.v p (oW _ hp)
 | num d i h1 h2 h3 =>
  intro w y t h
  rw [CK] at h
  split at h
  ·cases h
  ·rename_i hn
   obtain ⟨_, rfl⟩ := Prod.mk.inj (Option.some.inj h)
   exact LR fun e => hn (.inl e)
 | UO d i h1 h2 h3 =>
  intro w y t h
  rw [CL] at h
  obtain ⟨_, rfl⟩ := Prod.mk.inj (Option.some.inj h)
  exact rR
 | Rz d k z h1 h2 h3 ih =>
  intro w y t h
  rcases h2 with rfl | rfl
  ·rw [CM] at h
   obtain ⟨p, hp, e⟩ := Option.map_eq_some_iff.1 h
   obtain ⟨_, rfl⟩ := Prod.mk.inj e
   exact rR
  ·by_cases hz : z.kind = 2
   ·rw [yK E w z hz] at h
    split at h
    ·rename_i hn
     obtain ⟨_, rfl⟩ := Prod.mk.inj (Option.some.inj h)
     refine LR ?_
     rcases hn.1 with h | h <;> rw [h] <;> decide
    ·cases h
   ·rw [CN E w z hz] at h
    split at h
    case h_2 => cases h
    rename_i a u ha
    split at h
    case isFalse => cases h
    obtain ⟨_, rfl⟩ := Prod.mk.inj (Option.some.inj h)
    exact ih _ _ _ ha
 | bin d s a b h1 h2 ha hb AU JH =>
  intro w y t h
  rw [CO] at h
  obtain ⟨⟨p, q, r⟩, hp, e⟩ := Option.map_eq_some_iff.1 h
  obtain ⟨_, rfl⟩ := Prod.mk.inj e
  exact RX AU JH hp
 | SQ d s ks h1 h2 h3 ih =>
  intro w y t h
  rw [CP] at h
  split at h
  case h_2 => cases h
  rename_i z u hz
  obtain ⟨_, rfl⟩ := Prod.mk.inj (Option.some.inj h)
  unfold mb vX at hz
  dsimp only [aj.text, aj.kids] at hz
  cases hf : fD cR.name E.fu s with
  | none => rw [hf] at hz; cases hz
  | some f =>
   rw [hf] at hz
   dsimp only at hz
   rw [Option.map_map] at hz
   obtain ⟨l, hl, e⟩ := Option.map_eq_some_iff.1 hz
   have e2 : f.results = [u] := (Prod.mk.inj e).2
   exact (hE.t.pa f (oW _ hf)).2.2.2 u (by rw [e2]; exact List.mem_singleton_self _)
 | SR d k z h1 h2 h3 h4 ih =>
  intro w y t h
  rw [CQ] at h
  have hk : TW (.mk k [] []) := .leaf k _ _ (by omega)
  split at h
  ·obtain ⟨p, hp, e⟩ := Option.map_eq_some_iff.1 h
   obtain ⟨_, rfl⟩ := Prod.mk.inj e
   exact hk
  ·split at h
   case h_2 => cases h
   split at h
   case isFalse => cases h
   obtain ⟨_, rfl⟩ := Prod.mk.inj (Option.some.inj h)
   exact hk
 | SS d s z h1 h2 h3 ih =>
  intro w y t h
  rw [wv] at h
  split at h
  case h_2 => cases h
  obtain ⟨f, hf, e⟩ := Option.map_eq_some_iff.1 h
  obtain ⟨_, rfl⟩ := Prod.mk.inj e
  exact LQ hE hf
 | idx d a b h1 h2 h3 AU JH =>
  intro w y t h
  rw [CR] at h
  split at h
  case h_2 => cases h
  rename_i a' u ha
  obtain ⟨e, he, h⟩ := Option.bind_eq_some_iff.1 h
  obtain ⟨q, hq, h⟩ := Option.map_eq_some_iff.1 h
  obtain ⟨_, rfl⟩ := Prod.mk.inj h
  exact OQ (AU _ _ _ ha) he
 | cut d a b c h1 h2 h3 h4 AU JH ihc =>
  intro w y t h
  rw [CS] at h
  split at h
  case h_2 => cases h
  rename_i a' u ha
  obtain ⟨e, he, h⟩ := Option.bind_eq_some_iff.1 h
  obtain ⟨q, hq, h⟩ := Option.bind_eq_some_iff.1 h
  obtain ⟨r, hr, h⟩ := Option.map_eq_some_iff.1 h
  obtain ⟨_, rfl⟩ := Prod.mk.inj h
  exact AU _ _ _ ha
 | len d a h1 h2 AU =>
  intro w y t h
  rw [CT] at h
  split at h
  case h_2 => cases h
  obtain ⟨e, he, h⟩ := Option.map_eq_some_iff.1 h
  obtain ⟨_, rfl⟩ := Prod.mk.inj h
  exact RW
 | app d a b h1 h2 h3 AU JH =>
  intro w y t h
  rw [CU] at h
  split at h
  case h_2 => cases h
  rename_i a' u ha
  obtain ⟨e, he, h⟩ := Option.bind_eq_some_iff.1 h
  obtain ⟨q, hq, h⟩ := Option.map_eq_some_iff.1 h
  obtain ⟨_, rfl⟩ := Prod.mk.inj h
  exact AU _ _ _ ha
 | str d n ns ks h1 h2 h3 h4 h5 ih =>
  intro w y t h
  rw [CV] at h
  split at h
  case isFalse => cases h
  obtain ⟨q, hq, h⟩ := Option.map_eq_some_iff.1 h
  obtain ⟨_, rfl⟩ := Prod.mk.inj h
  exact .leaf 7 _ _ (by decide)
 | SU d u ks h1 h2 h3 ih =>
  intro w y t h
  rw [CW] at h
  split at h
  case isFalse => cases h
  obtain ⟨q, hq, h⟩ := Option.map_eq_some_iff.1 h
  obtain ⟨_, rfl⟩ := Prod.mk.inj h
  exact .sl _ _ (TW.yB h2)
theorem rS {d : Int} {x : aj} (h : jE d x) : x.kind = 5 → x.kids ≠ [] := by
 intro h5
 cases h with
 | Rz d k y h1 h2 h3 => simp [aj.kids]
 | _ => exact absurd h5 (by simp [aj.kind])
section
variable {E : bG} {res : List az} {n c s f w : Nat} {B : List (List V)} {T : List (Nat × Nat)} {j lo hi : Nat} {A C : List V} {kv : V}
set_option maxHeartbeats 8000000 in
theorem OS {x : aj} (hx : x.kind = 7) (hT : nx E.su E.fu) (hl : ∀ y ∈ x.kids, dI E res y) (want : az) (h : bU B n c s f w E res j lo hi A C kv x) : aD Tryz.prog av 135 [.ptr c 0, .ptr j A.length, aT want] ⟨B, T⟩ (lK (match mb E x with
 | some (y, [t]) => some (y, t)
 | _ => none) j lo hi A C kv B T) := by
 obtain ⟨N, hn⟩ : ∃ N, B.length = N := ⟨_, rfl⟩
 obtain ⟨al, dA⟩ : ∃ a, A.length = a := ⟨_, rfl⟩
 obtain ⟨X, hX⟩ : ∃ X, A ++ aR x kv ++ C = X := ⟨_, rfl⟩
 obtain ⟨x0, x1, x2, x6, x7, x8, x9, j9, lM⟩ := cI hX.symm dA
 have aA := h.row
 rw [hX] at aA
 rw [hx] at x0
 have gy := h.nl
 have hj : j < N := by have := h.nb; omega
 have hf := fun J => yI (T := T) hT hl (h.more (J := J))
 rw [dA] at hf ⊢
 unfold aT
 refine Al.go 160 rfl fun bh => ?_
 simp only [eI] at bh
 simp only [W, seval, cq, hn, hj, aA, x0, Int.reduceEq, decide_true, decide_false]
 refine aQ (hf _) ?_
 rintro v _ ⟨B1, rfl, hd, hv⟩
 have aU := hd.2.1
 simp only [List.length_append, List.length_cons, List.length_nil, hn, Nat.zero_add, Nat.reduceAdd] at aU
 have e1 : cm j lo hi B.length B B1 := cm.new.step hd.1
 have f1 := h.pX hd.1 (i := N + 1) (by omega) (by simp [hn])
 rw [dx hn] at f1
 simp only [List.getElem?_cons_zero, List.getElem?_cons_succ] at f1
 have dQ : N + 1 < B1.length := by omega
 have e2 : ∀ Z, cm j lo hi B.length B (B1.set (N + 1) Z) := fun Z => e1.jh (by omega)
 cases hr : mb E x with
 | none =>
  rw [hr] at hv
  obtain rfl : v = _ := hv
  refine af.go 60 ?_
  simp only [W, seval, cq, Bool.not_false]
  refine ag (cH _ _) ?_
  rintro _ _ ⟨rfl, rfl⟩
  unfold aT
  refine af.go 60 ?_
  simp only [W, seval, cq, dQ, f1]
  refine ct (v := ?_) (u := ?_) Tryz.func135 (by rfl) ?_ ?_ ?_
  rotate_left 2
  ·try simp only [W, seval, cq, dQ]
   exact rfl
  ·try simp only [W, seval, cq, dQ]
   exact rfl
  refine an (e2 _) ?_
  exact ⟨_, rfl, .none (e2 _) rfl, bO, rfl⟩
 | some p =>
  obtain ⟨y, ts⟩ := p
  rw [hr] at hv hd
  obtain rfl : v = _ := hv
  by_cases h1 : ts.length = 1
  ·have g1 : decide ((ts.length : Int) = 1) = true := decide_eq_true (by omega)
   obtain ⟨t, rfl⟩ := List.length_eq_one_iff.1 h1
   refine af.go 60 ?_
   simp only [W, seval, cq, Bool.not_true, bH, bX, cO, dQ, f1, decide_true]
   refine ct (v := ?_) (u := ?_) Tryz.func135 (by rfl) ?_ ?_ ?_
   rotate_left 2
   ·try simp only [W, seval, cq, dQ]
    exact rfl
   ·try simp only [W, seval, cq, dQ]
    exact rfl
   refine an (e2 _) ?_
   exact ⟨_, rfl, (h.more.done hd).fin (e2 _) gy (fun i hi => List.getElem?_set_ne (by omega)) fun z hz => (Option.some.inj hz).symm, rfl⟩
  ·have g1 : decide ((ts.length : Int) = 1) = false := decide_eq_false (by omega)
   have g2 : (match (some (y, ts) : Option (aj × List az)) with
    | some (y, [t]) => some (y, t)
    | _ => none) = none := by
    match ts, h1 with
    | [], _ => rfl
    | [t], h1 => exact absurd rfl h1
    | _ :: _ :: _, _ => rfl
   rw [g2]
   refine af.go 60 ?_
   simp only [W, seval, cq, Bool.not_true, g1, Bool.not_false]
   refine ag (cH _ _) ?_
   rintro _ _ ⟨rfl, rfl⟩
   unfold aT
   refine af.go 60 ?_
   simp only [W, seval, cq, dQ, f1]
   refine ct (v := ?_) (u := ?_) Tryz.func135 (by rfl) ?_ ?_ ?_
   rotate_left 2
   ·try simp only [W, seval, cq, dQ]
    exact rfl
   ·try simp only [W, seval, cq, dQ]
    exact rfl
   refine an (e2 _) ?_
   exact ⟨_, rfl, .none (e2 _) rfl, bO, rfl⟩
set_option maxHeartbeats 8000000 in
theorem OT {x a : aj} (hx : x.kind = 9) (hk : x.kids = [a]) (hT : nx E.su E.fu) (ha : dI E res a) (want : az) (h : bU B n c s f w E res j lo hi A C kv x) : aD Tryz.prog av 135 [.ptr c 0, .ptr j A.length, aT want] ⟨B, T⟩ (lK (match aC E a bO with
 | some (a, t) => (kD E.su t x.text).map fun f => (aP x [a], f)
 | none => none) j lo hi A C kv B T) := by
 obtain ⟨N, hn⟩ : ∃ N, B.length = N := ⟨_, rfl⟩
 obtain ⟨al, dA⟩ : ∃ a, A.length = a := ⟨_, rfl⟩
 obtain ⟨X, hX⟩ : ∃ X, A ++ aR x kv ++ C = X := ⟨_, rfl⟩
 obtain ⟨x0, x1, x2, x6, x7, x8, x9, j9, lM⟩ := cI hX.symm dA
 have aA := h.row
 rw [hX] at aA
 rw [hx] at x0
 have gy := h.nl
 have hj : j < N := by have := h.nb; omega
 have DA : j < N + 2 := by omega
 have dm : N + 1 < N + 2 := by omega
 obtain ⟨j1, m, cap, rfl, mB⟩ := h.bx (by rw [hk]; simp)
 have i0 : (0 : Int) < (m : Int) := by rw [mB, hk]; simp
 obtain ⟨eC, dM, A1, C1, mc, a1, ⟨qc, tM⟩, k1, k2, k3⟩ := (h.more (J := [jt want, mz])).nC (k := 0) (y := a) (by rw [hk]; rfl)
 rw [Nat.zero_mul] at a1
 rw [dA]
 unfold jt mz at *
 unfold aT
 refine Al.go 160 rfl fun bh => ?_
 simp only [eI] at bh
 simp only [W, seval, cq, hn, hj, aA, x0, Int.reduceEq, decide_true, decide_false]
 refine af.bp 12 [11] [j] (by kernel_rfl) (by kernel_rfl) (by kernel_rfl) (by kernel_rfl) (by kernel_rfl) (by kernel_rfl) (by kernel_rfl) ?_
 simp (maxSteps := 4000000) only [W, seval, cq, xw, ie, hn, hj, aA, x7, i0]
 refine bf (fun Z => cH _ _) ?_
 simp (maxSteps := 4000000) only [W, seval, cq, xw, hn, aT]
 refine IY ha k1 bO a1 ?_
 intro B1 t b0 hd aU lD iM
 simp only [List.length_append, List.length_cons, List.length_nil, hn, Nat.zero_add, Nat.reduceAdd] at aU
 have e3 : cm j lo hi B.length B B1 := cm.new.step (k2 _ _ hd.1)
 have f1 := h.pX (k2 _ _ hd.1) (i := N + 1) (by omega) (by simp [hn])
 rw [dx hn] at f1
 simp only [List.getElem?_cons_zero, List.getElem?_cons_succ] at f1
 have g1 : B1[j]? = (B ++ [[V.d (.int .i64 want.kind), .d (.str want.name), .d (.sl (want.elem.map ej))], [V.d (.int .i64 0), .d (.str []), .sl [] .full]])[j]? := hd.1.2.1 j (by simp; omega) tM
 have CC : B1[j]? = some X := by rw [g1, ai (by omega)]; exact aA
 have dQ : N + 1 < B1.length := by omega
 have e4 : ∀ Z J, cm j lo hi B.length B (B1.set (N + 1) Z ++ J) := fun Z J => (e3.jh (by omega)).app
 have g4 : ∀ Z, (B1.set (N + 1) Z)[N + 1]? = some Z := fun Z => List.getElem?_set_self dQ
 have g7 : ∀ Z J, (B1.set (N + 1) Z ++ J)[j]? = (B1 ++ J)[j]? := fun Z J => by rw [ai (by rw [List.length_set]; omega), ai (by omega), List.getElem?_set_ne (by omega)]
 refine ⟨⟨g1, trivial⟩, ?_⟩
 unfold aT
 simp (maxSteps := 4000000) only [W, seval, cq, xw, aU]
 refine ⟨g1, ?_⟩
 cases b0
 ·have hr := iM rfl
  rw [hr]
  refine af.go 60 ?_
  simp only [W, seval, cq, aU, Bool.not_false]
  refine ag (cH _ _) ?_
  rintro _ _ ⟨rfl, rfl⟩
  unfold aT
  refine af.go 60 ?_
  simp only [W, seval, cq, aU, f1, dm]
  refine ct (v := ?_) (u := ?_) Tryz.func135 (by rfl) ?_ ?_ ?_
  rotate_left 2
  ·try simp only [W, seval, cq, aU, dm, dQ, g4]
   exact rfl
  ·try simp only [W, seval, cq, aU, dm, dQ, g4]
   exact rfl
  refine an (e4 _ _) ?_
  exact ⟨_, rfl, .none (e4 _ _) rfl, bO, rfl⟩
 obtain ⟨y, hr⟩ := lD rfl
 rw [hr] at hd ⊢
 dsimp only
 have mg := k3 B1 y hd
 rw [hk] at mg
 have S9 := fun J Z => CG (T := T) hT t x.text ((mg.k.more J).more Z)
 unfold aT at S9
 refine af.go 60 ?_
 simp only [W, seval, cq, aU, Bool.not_true]
 refine af.bp 9 [] [N + 2, j] (by kernel_rfl) (by kernel_rfl) (by kernel_rfl) (by kernel_rfl) (by kernel_rfl) (by kernel_rfl) (by kernel_rfl) ?_
 simp (maxSteps := 4000000) only [W, seval, cq, xw, aU, f1, dm, DA, CC, x1]
 refine vt (EX.ex _) (fun Z => S9 _ Z) ?_
 intro v hv
 refine ⟨kA _ _, ?_⟩
 have g5 : ∀ Z J, (B1.set (N + 1) Z ++ J)[N + 2]? = (B1 ++ J)[N + 2]? := fun Z J => by
  have h1 : (B1.set (N + 1) Z).length = N + 2 := by rw [List.length_set]; exact aU
  rw [cy h1, cy aU]
 cases DP : kD E.su t x.text with
 | none =>
  rw [DP] at hv
  obtain rfl : v = _ := hv
  unfold aT
  simp (maxSteps := 4000000) only [W, seval, cq, xw, aU, f1, dm]
  refine af.go 60 ?_
  simp only [W, seval, cq, aU]
  refine ct (v := ?_) (u := ?_) Tryz.func135 (by rfl) ?_ ?_ ?_
  rotate_left 2
  ·try simp only [W, seval, cq, aU, dm, dQ, g4]
   exact rfl
  ·try simp only [W, seval, cq, aU, dm, dQ, g4]
   exact rfl
  refine an (e4 _ _) ?_
  exact ⟨_, rfl, .none (e4 _ _) rfl, bO, rfl⟩
 | some u =>
  rw [DP] at hv
  obtain rfl : v = _ := hv
  unfold aT
  simp (maxSteps := 4000000) only [W, seval, cq, xw, aU, f1, dm]
  refine af.go 60 ?_
  simp only [W, seval, cq, aU]
  refine ct (v := ?_) (u := ?_) Tryz.func135 (by rfl) ?_ ?_ ?_
  rotate_left 2
  ·try simp only [W, seval, cq, aU, dm, dQ, g4]
   exact rfl
  ·try simp only [W, seval, cq, aU, dm, dQ, g4]
   exact rfl
  refine an (e4 _ _) ?_
  exact ⟨_, rfl, mg.fin (e4 _ _) gy (fun i hi => by rw [ai (by rw [List.length_set]; omega), List.getElem?_set_ne (by omega)]) fun z hz => (Option.some.inj hz).symm, rfl⟩
end
theorem Gz {α β : Type} (g : α → Option β) : ∀ l : List α, (l.map g).mapM id = l.mapM g
 | [] => rfl
 | x :: l => by rw [List.map_cons, List.mapM_cons, List.mapM_cons, Gz g l]; rfl
theorem LS (E : bG) (e : az) : ∀ l : List aj, mS E l (List.replicate l.length (some e)) = qx E l e
 | [] => by unfold mS; exact (E6 E e).symm
 | x :: l => by
  rw [List.length_cons, List.replicate_succ, CJ]
  unfold mS
  rw [LS E e l]
  all_goals (cases aV (aC E x e) e <;> rfl)
theorem CX {E : bG} {res : List az} (hE : RV E) {d : Int} {x : aj} (hx : jE d x) : r9 x → dI E res x := by
 induction hx with
 | JE d s h1 h2 =>
  intro hs w n c s' f w' B T j lo hi A C kv h
  rw [wu]
  exact ON (x := .mk 1 s 0 bO [] []) rfl w h
 | num d i h1 h2 h3 =>
  intro hs w n c s' f w' B T j lo hi A C kv h
  rw [CK]
  refine rQ (x := .mk 2 [] i bO [] []) (.inl rfl) (fun h => by simp [aj.kind] at h) w h fun p q => ?_
  rw [if_pos (show gN (.mk 2 [] i bO [] []) = true from rfl)]
  exact Cz (x := .mk 2 [] i bO [] []) (fun h => by simp [aj.kind] at h) w h.more
 | UO d i h1 h2 h3 =>
  intro hs w n c s' f w' B T j lo hi A C kv h
  rw [CL]
  exact OM (x := .mk 3 [] i bO [] []) rfl w h
 | Rz d k z h1 h2 h3 ih =>
  intro hs w n c s' f w' B T j lo hi A C kv h
  have hz : dI E res z := ih (hs.pV z List.mem_cons_self)
  rcases h2 with rfl | rfl
  ·rw [CM]
   refine rQ (x := .mk 4 [] 0 bO [] [z]) (.inr (.inl rfl)) (fun h => by simp [aj.kind] at h) w h fun p q => ?_
   rw [if_neg (by simp [gN])]
   exact OJ (x := .mk 4 [] 0 bO [] [z]) rfl rfl hz w h.more
  ·by_cases hk : z.kind = 2
   ·rw [yK E w z hk]
    refine rQ (x := .mk 5 [] 0 bO [] [z]) (.inr (.inr (.inl rfl))) (fun _ => by simp [aj.kids]) w h fun p q => ?_
    rw [if_pos (by simp [gN, hk])]
    exact Cz (x := .mk 5 [] 0 bO [] [z]) (fun _ => by simp [aj.kids]) w h.more
   ·rw [CN E w z hk]
    refine rQ (x := .mk 5 [] 0 bO [] [z]) (.inr (.inr (.inl rfl))) (fun _ => by simp [aj.kids]) w h fun p q => ?_
    rw [if_neg (by simp [gN, hk])]
    exact OK (x := .mk 5 [] 0 bO [] [z]) rfl rfl hz w h.more
 | bin d s a b h1 h2 ha hb AU JH =>
  intro hs w n c s' f w' B T j lo hi A C kv h
  rw [CO]
  have hA := AU (hs.pV a List.mem_cons_self)
  have hB := JH (hs.pV b (List.mem_cons_of_mem _ List.mem_cons_self))
  refine OO (x := .mk 6 s 0 bO [] [a, b]) rfl w h fun p q => ?_
  rcases OP s h2 with ⟨g1, _⟩ | ⟨g1, g2, _, g3 | ⟨g3, g4⟩⟩ | ⟨g1, g2, _⟩ | ⟨g1, g2, g3, g4, _⟩
  ·exact I3 (x := .mk 6 s 0 bO [] [a, b]) g1 rfl hA hB w h.more
  ·exact I0 (x := .mk 6 s 0 bO [] [a, b]) g1 g2 g3 rfl hA hB (rS ha) w h.more
  ·exact I1 (x := .mk 6 s 0 bO [] [a, b]) g1 g2 g3 g4 rfl hA hB (rS ha) w h.more
  ·exact I4 (x := .mk 6 s 0 bO [] [a, b]) g1 g2 rfl hA hB w h.more
  ·exact I2 (x := .mk 6 s 0 bO [] [a, b]) g1 g2 g3 g4 rfl hA hB (rS ha) w h.more
 | SQ d s ks h1 h2 h3 ih =>
  intro hs w n c s' f w' B T j lo hi A C kv h
  rw [CP]
  exact OS (x := .mk 7 s 0 bO [] ks) rfl hE.t (fun y hy => ih y hy (hs.pV y hy)) w h
 | SR d k z h1 h2 h3 h4 ih =>
  intro hs w n c s' f w' B T j lo hi A C kv h
  rw [CQ]
  refine rQ (x := .mk 8 [] 0 (.mk k [] []) [] [z]) (.inr (.inr (.inr rfl))) (fun h => by simp [aj.kind] at h) w h fun p q => ?_
  rw [if_neg (by simp [gN])]
  exact OL (x := .mk 8 [] 0 (.mk k [] []) [] [z]) rfl rfl (ih (hs.pV z List.mem_cons_self)) (rS h4) w h.more
 | SS d s z h1 h2 h3 ih =>
  intro hs w n c s' f w' B T j lo hi A C kv h
  rw [wv]
  exact OT (x := .mk 9 s 0 bO [] [z]) rfl rfl hE.t (ih (hs.pV z List.mem_cons_self)) w h
 | idx d a b h1 h2 h3 AU JH =>
  intro hs w n c s' f w' B T j lo hi A C kv h
  rw [CR]
  exact uF (x := .mk 10 [] 0 bO [] [a, b]) (.inl rfl) w h fun p q => OF (x := .mk 10 [] 0 bO [] [a, b]) rfl rfl (AU (hs.pV a List.mem_cons_self)) (JH (hs.pV b (List.mem_cons_of_mem _ List.mem_cons_self))) (Am hE h2) w h.more
 | cut d a b c h1 h2 h3 h4 AU JH ihc =>
  intro hs w n c' s' f w' B T j lo hi A C kv h
  rw [CS]
  exact uF (x := .mk 11 [] 0 bO [] [a, b, c]) (.inr (.inl rfl)) w h fun p q => OI (x := .mk 11 [] 0 bO [] [a, b, c]) rfl rfl (AU (hs.pV a List.mem_cons_self)) (JH (hs.pV b (List.mem_cons_of_mem _ List.mem_cons_self))) (ihc (hs.pV c (List.mem_cons_of_mem _ (List.mem_cons_of_mem _ List.mem_cons_self)))) (Am hE h2) w h.more
 | len d a h1 h2 AU =>
  intro hs w n c s' f w' B T j lo hi A C kv h
  rw [CT]
  exact uF (x := .mk 12 [] 0 bO [] [a]) (.inr (.inr (.inl rfl))) w h fun p q => OE (x := .mk 12 [] 0 bO [] [a]) rfl rfl (AU (hs.pV a List.mem_cons_self)) (Am hE h2) w h.more
 | app d a b h1 h2 h3 AU JH =>
  intro hs w n c s' f w' B T j lo hi A C kv h
  rw [CU]
  exact uF (x := .mk 13 [] 0 bO [] [a, b]) (.inr (.inr (.inr rfl))) w h fun p q => OH (x := .mk 13 [] 0 bO [] [a, b]) rfl rfl (AU (hs.pV a List.mem_cons_self)) (JH (hs.pV b (List.mem_cons_of_mem _ List.mem_cons_self))) (Am hE h2) w h.more
 | str d m ns ks h1 h2 h3 h4 h5 ih =>
  intro hs w n c s' f w' B T j lo hi A C kv h
  rw [CV, ← Gz, ← Gw]
  exact Gy (x := .mk 14 [] 0 (.mk 7 m []) ns ks) (.inl rfl) w h fun p q => Gx (x := .mk 14 [] 0 (.mk 7 m []) ns ks) hE.t (.leaf 7 _ _ (by decide)) (fun y hy => ih y hy (hs.pV y hy)) (by have := hs.len; omega) _ (by rw [List.length_map]; exact h3) (.inl ⟨rfl, rfl⟩) h.more
 | SU d t ks h1 h2 h3 ih =>
  intro hs w n c s' f w' B T j lo hi A C kv h
  rw [CW, ← LS]
  exact Gy (x := .mk 15 [] 0 (.mk 8 [] [t]) [] ks) (.inr rfl) w h fun p q => Gx (x := .mk 15 [] 0 (.mk 8 [] [t]) [] ks) hE.t (.sl _ t (TW.yB h2)) (fun y hy => ih y hy (hs.pV y hy)) (by have := hs.len; omega) _ (by rw [List.length_replicate]; rfl) (.inr ⟨by simp [aj.kind], t, rfl, rfl⟩) h.more
def cT (s : aF) (v1 v2 v3 v4 v5 : V) : List V := [.d (.int .i64 s.kind), .d (.sl (gu s.names)), .d (.int .i64 s.type.kind), .d (.str s.type.name), .d (.sl (s.type.elem.map ej)), v1, v2, v3, v4, v5]
mutual
def ia (B : List (List V)) : aF → Nat → Nat → List V → Prop
 | .mk k ns ty ls es b e cs => fun lo hi r => ∃ (v1 v2 v3 v4 v5 : V) (m1 m2 m3 m4 : Nat), r = cT (.mk k ns ty ls es b e cs) v1 v2 v3 v4 v5 ∧ fN B ls lo m1 v1 ∧ fN B es m1 m2 v2 ∧ kG (dD B b) b.length B m2 m3 v3 ∧ kG (dD B e) e.length B m3 m4 v4 ∧ kG (gd B cs) cs.length B m4 hi v5
def dD (B : List (List V)) : List aF → Nat → Nat → List V → Prop
 | [] => fun lo hi _ => lo ≤ hi
 | x :: l => fun lo hi X => ∃ r X' m, X = r ++ X' ∧ r.length = 10 ∧ lo ≤ m ∧ m ≤ hi ∧ ia B x lo m r ∧ dD B l m hi X'
def jj (B : List (List V)) : cQ → Nat → Nat → List V → Prop
 | .mk i b => fun lo hi r => ∃ v, r = [.d (.int .u64 i), v] ∧ kG (dD B b) b.length B lo hi v
def gd (B : List (List V)) : List cQ → Nat → Nat → List V → Prop
 | [] => fun lo hi _ => lo ≤ hi
 | x :: l => fun lo hi X => ∃ r X' m, X = r ++ X' ∧ r.length = 2 ∧ lo ≤ m ∧ m ≤ hi ∧ jj B x lo m r ∧ gd B l m hi X'
end
theorem jk (B : List (List V)) : ∀ (l : List aF) (lo hi : Nat) (X : List V), dD B l lo hi X = bL 10 (ia B) l lo hi X
 | [], _, _, _ => by unfold dD bL; rfl
 | x :: l, lo, hi, X => by
  unfold dD bL
  simp only [jk B l]
theorem jl (B : List (List V)) : ∀ (l : List cQ) (lo hi : Nat) (X : List V), gd B l lo hi X = bL 2 (jj B) l lo hi X
 | [], _, _, _ => by unfold gd bL; rfl
 | x :: l, lo, hi, X => by
  unfold gd bL
  simp only [jl B l]
def fH (B : List (List V)) (l : List aF) (lo hi : Nat) (v : V) : Prop := kG (dD B l) l.length B lo hi v
def lz (B : List (List V)) (l : List cQ) (lo hi : Nat) (v : V) : Prop := kG (gd B l) l.length B lo hi v
def tO (B : List (List V)) (x : aF) (lo m1 m2 m3 m4 hi : Nat) (v1 v2 v3 v4 v5 : V) : Prop := fN B x.aG lo m1 v1 ∧ fN B x.exprs m1 m2 v2 ∧ fH B x.body m2 m3 v3 ∧ fH B x.dO m3 m4 v4 ∧ lz B x.cases m4 hi v5
theorem kN {B : List (List V)} {x : aF} {lo hi : Nat} {r : List V} : ia B x lo hi r ↔ ∃ (v1 v2 v3 v4 v5 : V) (m1 m2 m3 m4 : Nat), r = cT x v1 v2 v3 v4 v5 ∧ tO B x lo m1 m2 m3 m4 hi v1 v2 v3 v4 v5 := by
 cases x
 unfold ia tO fH lz
 rfl
theorem kO {B : List (List V)} {x : cQ} {lo hi : Nat} {r : List V} : jj B x lo hi r ↔ ∃ v, r = [.d (.int .u64 x.int), v] ∧ fH B x.body lo hi v := by
 cases x
 unfold jj fH
 rfl
theorem tO.le {B : List (List V)} {x : aF} {lo m1 m2 m3 m4 hi : Nat} {v1 v2 v3 v4 v5 : V} (h : tO B x lo m1 m2 m3 m4 hi v1 v2 v3 v4 v5) : lo ≤ m1 ∧ m1 ≤ m2 ∧ m2 ≤ m3 ∧ m3 ≤ m4 ∧ m4 ≤ hi :=
 ⟨h.1.le, h.2.1.le, h.2.2.1.le, h.2.2.2.1.le, h.2.2.2.2.le⟩
mutual
theorem ia.frame {B B' : List (List V)} : ∀ (x : aF) {lo hi : Nat} {r : List V}, ia B x lo hi r → (∀ i, lo ≤ i → i < hi → B'[i]? = B[i]?) → ia B' x lo hi r
 | .mk k ns ty ls es b e cs, lo, hi, r, h, hb => by
  unfold ia at h ⊢
  obtain ⟨v1, v2, v3, v4, v5, m1, m2, m3, m4, h0, h1, h2, h3, h4, h5⟩ := h
  have l1 := h1.le
  have l2 := h2.le
  have l3 := h3.le
  have l4 := h4.le
  have l5 := h5.le
  exact ⟨v1, v2, v3, v4, v5, m1, m2, m3, m4, h0, h1.frame fun i a b => hb i a (by omega), h2.frame fun i a b => hb i (by omega) (by omega),
   h3.frame (fun i a b => hb i (by omega) (by omega)) fun a Y ha hf => dD.frame b hf fun i c d => hb i (by omega) (by omega),
   h4.frame (fun i a b => hb i (by omega) (by omega)) fun a Y ha hf => dD.frame e hf fun i c d => hb i (by omega) (by omega),
   h5.frame (fun i a b => hb i (by omega) (by omega)) fun a Y ha hf => gd.frame cs hf fun i c d => hb i (by omega) (by omega)⟩
theorem dD.frame {B B' : List (List V)} : ∀ (l : List aF) {lo hi : Nat} {X : List V}, dD B l lo hi X → (∀ i, lo ≤ i → i < hi → B'[i]? = B[i]?) → dD B' l lo hi X
 | [], lo, hi, X, h, hb => by
  unfold dD at h ⊢
  exact h
 | x :: l, lo, hi, X, h, hb => by
  unfold dD at h ⊢
  obtain ⟨r, X', m, h1, h2, h3, h4, h5, h6⟩ := h
  exact ⟨r, X', m, h1, h2, h3, h4, ia.frame x h5 fun i h7 h8 => hb i h7 (by omega), dD.frame l h6 fun i h7 h8 => hb i (by omega) h8⟩
theorem jj.frame {B B' : List (List V)} : ∀ (x : cQ) {lo hi : Nat} {r : List V}, jj B x lo hi r → (∀ i, lo ≤ i → i < hi → B'[i]? = B[i]?) → jj B' x lo hi r
 | .mk i b, lo, hi, r, h, hb => by
  unfold jj at h ⊢
  obtain ⟨v, h0, h1⟩ := h
  exact ⟨v, h0, h1.frame hb fun a Y ha hf => dD.frame b hf fun i c d => hb i (by omega) (by omega)⟩
theorem gd.frame {B B' : List (List V)} : ∀ (l : List cQ) {lo hi : Nat} {X : List V}, gd B l lo hi X → (∀ i, lo ≤ i → i < hi → B'[i]? = B[i]?) → gd B' l lo hi X
 | [], lo, hi, X, h, hb => by
  unfold gd at h ⊢
  exact h
 | x :: l, lo, hi, X, h, hb => by
  unfold gd at h ⊢
  obtain ⟨r, X', m, h1, h2, h3, h4, h5, h6⟩ := h
  exact ⟨r, X', m, h1, h2, h3, h4, jj.frame x h5 fun i h7 h8 => hb i h7 (by omega), gd.frame l h6 fun i h7 h8 => hb i (by omega) h8⟩
end
theorem fH.frame {B B' : List (List V)} {l : List aF} {lo hi : Nat} {v : V} (h : fH B l lo hi v) (hb : ∀ i, lo ≤ i → i < hi → B'[i]? = B[i]?) : fH B' l lo hi v :=
 kG.frame h hb fun a Y ha hf => dD.frame l hf fun i h3 h4 => hb i (by omega) h4
theorem lz.frame {B B' : List (List V)} {l : List cQ} {lo hi : Nat} {v : V} (h : lz B l lo hi v) (hb : ∀ i, lo ≤ i → i < hi → B'[i]? = B[i]?) : lz B' l lo hi v :=
 kG.frame h hb fun a Y ha hf => gd.frame l hf fun i h3 h4 => hb i (by omega) h4
mutual
def mC : aF → aF
 | .mk k ns ty ls es b e cs => .mk k ns ty (aM ls) (aM es) (cx b) (cx e) (jm cs)
def cx : List aF → List aF
 | [] => []
 | x :: l => mC x :: cx l
def E7 : cQ → cQ
 | .mk i b => .mk i (cx b)
def jm : List cQ → List cQ
 | [] => []
 | x :: l => E7 x :: jm l
end
theorem ff : ∀ l : List aF, (cx l).length = l.length
 | [] => by simp [cx]
 | x :: l => by simp [cx, ff l]
theorem ov : ∀ l : List cQ, (jm l).length = l.length
 | [] => by simp [jm]
 | x :: l => by simp [jm, ov l]
theorem E8 {E : bG} {x y : aj} {ts : List az} (h : mb E x = some (y, ts)) : bJ y = bJ x := by
 unfold mb at h
 obtain ⟨⟨l, ts'⟩, hr, e⟩ := Option.map_eq_some_iff.1 h
 obtain rfl := (Prod.mk.inj e).1
 unfold vX at hr
 split at hr
 ·obtain ⟨l', hl, e⟩ := Option.map_eq_some_iff.1 hr
  obtain rfl := (Prod.mk.inj e).1
  cases x
  have := ga E _ _ _ hl
  simp only [aP, bJ]
  rw [show aM l' = aM _ from this]
  rfl
 ·cases hr
theorem mU {E : bG} {l l' : List aj} {ts : List az} (h : fQ E l ts = some l') : aM l' = aM l := by
 unfold fQ at h
 split at h
 ·rename_i x
  split at h
  ·split at h
   ·rename_i y rs hc
    split at h
    ·obtain rfl := Option.some.inj h
     simp only [aM, E8 hc]
    ·cases h
   ·cases h
  ·exact ga E _ _ _ h
 ·exact ga E _ _ _ h
mutual
theorem E9 (su : List cM) (fu : List cR) (res : List az) : ∀ (s : aF) (vs : List bI) (s' : aF) (nN : List bI), iE su fu res s vs = some (s', nN) → mC s' = mC s
 | .mk k ns ty ls es b e cs, vs, s', nN, h => by
  unfold iE at h
  split at h
  ·split at h
   ·split at h
    ·obtain ⟨rfl, _⟩ := h; rfl
    ·cases h
   ·cases h
  split at h
  ·split at h
   ·obtain ⟨l, hl, e⟩ := Option.map_eq_some_iff.1 h
    obtain rfl := (Prod.mk.inj e).1
    simp only [mC, mU hl]
   ·cases h
  split at h
  ·obtain ⟨l, hl, e⟩ := Option.map_eq_some_iff.1 h
   obtain rfl := (Prod.mk.inj e).1
   simp only [mC, mU hl]
  split at h
  ·rename_i x
   split at h
   ·split at h
    ·rename_i x' t hx
     split at h
     ·split at h
      ·rename_i LB oF
       obtain ⟨e', he, e⟩ := Option.map_eq_some_iff.1 h
       obtain rfl := (Prod.mk.inj e).1
       simp only [mC, aM, bR _ _ _ _ _ hx, tP su fu res _ cs vs LB oF, fq su fu res _ vs e' he]
      ·cases h
     ·cases h
    ·cases h
   ·split at h
    ·rename_i x' hx
     obtain ⟨_, hx⟩ := fR hx
     split at h
     ·rename_i b' hb
      obtain ⟨e', he, e⟩ := Option.map_eq_some_iff.1 h
      obtain rfl := (Prod.mk.inj e).1
      simp only [mC, aM, bR _ _ _ _ _ hx, fq su fu res b vs b' hb, fq su fu res _ vs e' he]
     ·cases h
    ·cases h
  ·cases h
theorem fq (su : List cM) (fu : List cR) (res : List az) : ∀ (l : List aF) (vs : List bI) (l' : List aF), cB su fu res l vs = some l' → cx l' = cx l
 | [], vs, l', h => by
  unfold cB at h
  rw [← Option.some.inj h]
 | s :: l, vs, l', h => by
  unfold cB at h
  split at h
  ·rename_i s' nN hs
   obtain ⟨m, hm, rfl⟩ := Option.map_eq_some_iff.1 h
   simp only [cx, E9 su fu res s vs s' nN hs, fq su fu res l nN m hm]
  ·cases h
theorem tP (su : List cM) (fu : List cR) (res : List az) (top : Int) : ∀ (l : List cQ) (vs : List bI) (l' : List cQ), gO su fu res top l vs = some l' → jm l' = jm l
 | [], vs, l', h => by
  unfold gO at h
  rw [← Option.some.inj h]
 | .mk i b :: l, vs, l', h => by
  unfold gO at h
  split at h
  ·cases h
  split at h
  ·rename_i b' hb
   obtain ⟨m, hm, rfl⟩ := Option.map_eq_some_iff.1 h
   simp only [jm, E7, fq su fu res b vs b' hb, tP su fu res top l vs m hm]
  ·cases h
end
theorem yL {f : Nat → Nat → List V → Prop} {g : List (List V) → Nat → Nat → List V → Prop} {n n' : Nat} {B : List (List V)} {lo hi : Nat} {v : V} (h : kG f n B lo hi v) (hn : n = n') (ih : ∀ a Y, f a hi Y → ∃ B1 Y1, xM a hi B B1 ∧ g B1 a hi Y1 ∧ ∀ u ∈ Y1, u ∈ Y ∨ fit 0 0 u = true)
 (hg : ∀ B1 B2 a Y, g B1 a hi Y → (∀ i, a ≤ i → i < hi → B2[i]? = B1[i]?) → g B2 a hi Y) : ∃ B1, xM lo hi B B1 ∧ kG (g B1) n' B1 lo hi v := by
 subst hn
 rcases h with ⟨g1, g2, g3⟩ | ⟨g1, j1, cap, Y, g2, g3, g4, g5, g6⟩
 ·exact ⟨B, .refl _ _ _, .inl ⟨g1, g2, g3⟩⟩
 ·obtain ⟨B1, Y1, i1, i2, i3⟩ := ih _ _ g6
  have hj : B1[j1]? = some Y := by rw [i1.2.1 j1 (by omega)]; exact g5
  exact ⟨B1.set j1 Y1, (i1.wide (by omega) (Nat.le_refl _)).trans (.put g3 g4 hj i3), .inr ⟨g1, j1, cap, Y1, g2, g3, g4, List.getElem?_set_self (List.getElem?_eq_some_iff.1 hj).1, hg _ _ _ _ i2 fun i h7 h8 => List.getElem?_set_ne (by omega)⟩⟩
theorem An {l m : List aj} {B : List (List V)} {lo hi : Nat} {v : V} (h : fN B l lo hi v) (e : aM l = aM m) : ∃ B1, xM lo hi B B1 ∧ fN B1 m lo hi v :=
 yL (g := fun B => jB B m) h (by rw [← gQ l, ← gQ m, e]) (fun a Y hf => Af l m B a hi Y e hf) fun B1 B2 a Y h hb => jB.frame m h hb
theorem I5 {x y : aF} {v1 v2 v3 v4 v5 : V} : ∀ v ∈ cT y v1 v2 v3 v4 v5, v ∈ cT x v1 v2 v3 v4 v5 ∨ fit 0 0 v = true := by
 intro v hv
 simp only [cT, List.mem_cons, List.not_mem_nil, or_false] at hv
 rcases hv with rfl | rfl | rfl | rfl | rfl | rfl | rfl | rfl | rfl | rfl
 all_goals first
  | exact .inr rfl
  | exact .inl (by simp [cT])
theorem I6 {x y : aF} (h : mC x = mC y) : aM x.aG = aM y.aG ∧ aM x.exprs = aM y.exprs ∧ cx x.body = cx y.body ∧ cx x.dO = cx y.dO ∧ jm x.cases = jm y.cases := by
 cases x; cases y
 simp only [mC, aF.mk.injEq] at h
 exact ⟨h.2.2.2.1, h.2.2.2.2.1, h.2.2.2.2.2.1, h.2.2.2.2.2.2.1, h.2.2.2.2.2.2.2⟩
mutual
theorem rT : ∀ (l m : List aF) (B : List (List V)) (lo hi : Nat) (X : List V), cx l = cx m → dD B l lo hi X → ∃ B1 X1, xM lo hi B B1 ∧ dD B1 m lo hi X1 ∧ ∀ v ∈ X1, v ∈ X ∨ fit 0 0 v = true
 | [], [], B, lo, hi, X, _, h => ⟨B, X, .refl _ _ _, h, fun _ hv => .inl hv⟩
 | [], _ :: _, _, _, _, _, e, _ => by simp [cx] at e
 | _ :: _, [], _, _, _, _, e, _ => by simp [cx] at e
 | .mk k ns ty ls es b e cs :: l, y :: m, B, lo, hi, X, eq, h => by
  simp only [cx, List.cons.injEq] at eq
  obtain ⟨e1, e2⟩ := eq
  unfold dD at h
  obtain ⟨r, X', q, rfl, h2, h3, h4, h5, h6⟩ := h
  obtain ⟨v1, v2, v3, v4, v5, m1, m2, m3, m4, rfl, p1, p2, p3, p4, p5⟩ := kN.1 h5
  have l1 := p1.le
  have l2 := p2.le
  have l3 := p3.le
  have l4 := p4.le
  have l5 := p5.le
  obtain ⟨q1, q2, q3, q4, q5⟩ := I6 e1
  obtain ⟨B1, i1, o1⟩ := An p1 q1
  obtain ⟨B2, i2, o2⟩ := An (p2.frame (B' := B1) fun i a _ => i1.2.1 i (by omega)) q2
  have f3 := p3.frame (B' := B2) fun i a _ => by rw [i2.2.1 i (by omega), i1.2.1 i (by omega)]
  obtain ⟨B3, i3, o3⟩ := yL (g := fun B => dD B y.body) (n' := y.body.length) f3 (by rw [← ff, ← ff y.body, q3]) (fun a Y hf => rT b y.body B2 a m3 Y q3 hf) fun B1 B2 a Y h hb => dD.frame _ h hb
  have f4 := p4.frame (B' := B3) fun i a _ => by rw [i3.2.1 i (by omega), i2.2.1 i (by omega), i1.2.1 i (by omega)]
  obtain ⟨B4, i4, o4⟩ := yL (g := fun B => dD B y.dO) (n' := y.dO.length) f4 (by rw [← ff, ← ff y.dO, q4]) (fun a Y hf => rT e y.dO B3 a m4 Y q4 hf) fun B1 B2 a Y h hb => dD.frame _ h hb
  have f5 := p5.frame (B' := B4) fun i a _ => by rw [i4.2.1 i (by omega), i3.2.1 i (by omega), i2.2.1 i (by omega), i1.2.1 i (by omega)]
  obtain ⟨B5, i5, o5⟩ := yL (g := fun B => gd B y.cases) (n' := y.cases.length) f5 (by rw [← ov, ← ov y.cases, q5]) (fun a Y hf => GA cs y.cases B4 a q Y q5 hf) fun B1 B2 a Y h hb => gd.frame _ h hb
  have iq : xM lo q B B5 := (i1.wide (Nat.le_refl _) (by omega)).trans ((i2.wide (by omega) (by omega)).trans ((i3.wide (by omega) (by omega)).trans ((i4.wide (by omega) (by omega)).trans (i5.wide (by omega) (Nat.le_refl _)))))
  have oP : tO B5 y lo m1 m2 m3 m4 q v1 v2 v3 v4 v5 :=
   ⟨o1.frame fun i a _ => by rw [i5.2.1 i (by omega), i4.2.1 i (by omega), i3.2.1 i (by omega), i2.2.1 i (by omega)],
    o2.frame fun i a _ => by rw [i5.2.1 i (by omega), i4.2.1 i (by omega), i3.2.1 i (by omega)],
    fH.frame o3 fun i a _ => by rw [i5.2.1 i (by omega), i4.2.1 i (by omega)],
    fH.frame o4 fun i a _ => by rw [i5.2.1 i (by omega)], o5⟩
  obtain ⟨B6, X2, j1, j2, j3⟩ := rT l m B5 q hi X' e2 (dD.frame l h6 fun i h7 h8 => iq.2.1 i (by omega))
  refine ⟨B6, cT y v1 v2 v3 v4 v5 ++ X2, (iq.wide (Nat.le_refl _) h4).trans (j1.wide h3 (Nat.le_refl _)), ?_, fun v hv => ?_⟩
  ·unfold dD
   exact ⟨_, X2, q, rfl, rfl, h3, h4, ia.frame y (kN.2 ⟨v1, v2, v3, v4, v5, m1, m2, m3, m4, rfl, oP⟩) fun i h7 h8 => j1.2.1 i (by omega), j2⟩
  ·rcases List.mem_append.1 hv with hv | hv
   ·exact (I5 v hv).imp (fun h => List.mem_append_left _ h) id
   ·exact (j3 v hv).imp (fun h => List.mem_append_right _ h) id
termination_by l => SizeOf.sizeOf l
theorem GA : ∀ (l m : List cQ) (B : List (List V)) (lo hi : Nat) (X : List V), jm l = jm m → gd B l lo hi X → ∃ B1 X1, xM lo hi B B1 ∧ gd B1 m lo hi X1 ∧ ∀ v ∈ X1, v ∈ X ∨ fit 0 0 v = true
 | [], [], B, lo, hi, X, _, h => ⟨B, X, .refl _ _ _, h, fun _ hv => .inl hv⟩
 | [], _ :: _, _, _, _, _, e, _ => by simp [jm] at e
 | _ :: _, [], _, _, _, _, e, _ => by simp [jm] at e
 | .mk n b :: l, .mk n' b' :: m, B, lo, hi, X, eq, h => by
  simp only [jm, E7, List.cons.injEq, cQ.mk.injEq] at eq
  obtain ⟨⟨rfl, e1⟩, e2⟩ := eq
  unfold gd at h
  obtain ⟨r, X', q, rfl, h2, h3, h4, h5, h6⟩ := h
  obtain ⟨v, rfl, p1⟩ := kO.1 h5
  obtain ⟨B3, i3, o3⟩ := yL (g := fun B => dD B b') (n' := b'.length) p1 (by rw [← ff, ← ff b', ← e1]; rfl) (fun a Y hf => rT b b' B a q Y e1 hf) fun B1 B2 a Y h hb => dD.frame _ h hb
  obtain ⟨B6, X2, j1, j2, j3⟩ := GA l m B3 q hi X' e2 (gd.frame l h6 fun i h7 h8 => i3.2.1 i (by omega))
  refine ⟨B6, [.d (.int .u64 n), v] ++ X2, (i3.wide (Nat.le_refl _) h4).trans (j1.wide h3 (Nat.le_refl _)), ?_, fun u hu => ?_⟩
  ·unfold gd
   exact ⟨_, X2, q, rfl, rfl, h3, h4, jj.frame _ (kO.2 ⟨v, rfl, o3⟩) fun i h7 h8 => j1.2.1 i (by omega), j2⟩
  ·rcases List.mem_append.1 hu with hu | hu
   ·exact .inl (List.mem_append_left _ hu)
   ·exact (j3 u hu).imp (fun h => List.mem_append_right _ h) id
termination_by l => SizeOf.sizeOf l
end
theorem OU {l m : List aF} {B : List (List V)} {lo hi : Nat} {v : V} (h : fH B l lo hi v) (e : cx l = cx m) : ∃ B1, xM lo hi B B1 ∧ fH B1 m lo hi v :=
 yL (g := fun B => dD B m) h (by rw [← ff l, ← ff m, e]) (fun a Y hf => rT l m B a hi Y e hf) fun B1 B2 a Y h hb => dD.frame m h hb
end Go.Proofs.YtnfnbjjnjjdjdaaGreatDoor
