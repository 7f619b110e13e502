/- goprintPrograms Part 5 of 5 of the proof. -/
import Derived.Test.YtfaoamebphckbaaGreatDoorGoprintProgramsd
import Derived.OpenShut
import Derived.ChangeArms
import Derived.Test.YtfaoamebphckbaaGreatDoorRows
import Derived.ProofKit
import Derived.ShutString
import Derived.Deep.DeepHandedRow
import Derived.Carry
import Derived.Lib.LaidTab
import Derived.LaidLaws
import Derived.WalkKit
import Derived.Test.YtfaoamebphckbaaGreatDoorCards
import Derived.Test.YtfaoamebphckbaaGreatDoorTie
import Derived.Lay
namespace Go.Proofs.YtfaoamebphckbaaGreatDoor
open Go.RowKit Go.Av Go.Ab
set_option linter.unusedSimpArgs false
set_option maxRecDepth 100000
set_option linter.defProp false
def c41 := by
 have c := KK_of Tryz.f41 (by conv => lhs; cbv)
 dsimp only [KK, KxP, doO, opO, List.map_cons, List.map_nil, List.toList_toArray] at c
 exact c
theorem b41 : FnIs Tryz.prog 41 Tryz.f41 31 := ⟨Tryz.func41, by kernel_rfl⟩
def c68 := by
 have c := KK_of Tryz.f68 (by conv => lhs; cbv)
 dsimp only [KK, KxP, doO, opO, List.map_cons, List.map_nil, List.toList_toArray] at c
 exact c
theorem b68 : FnIs Tryz.prog 68 Tryz.f68 50 := ⟨Tryz.func68, by kernel_rfl⟩
def c40 := by
 have c := KK_of Tryz.f40 (by conv => lhs; cbv)
 dsimp only [KK, KxP, doO, opO, List.map_cons, List.map_nil, List.toList_toArray] at c
 exact c
theorem b40 : FnIs Tryz.prog 40 Tryz.f40 31 := ⟨Tryz.func40, by kernel_rfl⟩
def w64 (n : Int) : Int := IntKind.i64.wrap n
mutual
def tpW : TyT → Int → Int
 | .mk _ _ es, m => tpsW es 1 m
def tpsW : List TyT → Int → Int → Int
 | [], n, _ => n
 | e :: es, n, m => if n ≤ m then tpsW es (w64 (n + tpW e (w64 (m - n)))) m else n
end
def tyW (t : TyT) (n m : Int) : Int := if zeroS t = true then n else w64 (n + tpW t (w64 (m - n)))
mutual
def e1W : ExT → Int → Int → Int
 | .mk _ _ _ ty _ ks, n, m => w64 (tyW ty (w64 (n + 1)) m + epW ks 0 (w64 (m - tyW ty (w64 (n + 1)) m)))
def epW : List ExT → Int → Int → Int
 | [], n, _ => n
 | x :: l, n, m => if n ≤ m then epW l (e1W x n m) m else n
end
def ppW : List PaT → Int → Int → Int
 | [], n, _ => n
 | x :: l, n, m => if n ≤ m then ppW l (w64 (w64 (n + 1) + tpW x.type (w64 (m - n)))) m else n
theorem tpW_elem (t : TyT) (m : Int) : tpW t m = tpsW t.elem 1 m := by cases t; rw [tpW]; rfl
theorem e1W_kids (x : ExT) (n m : Int) : e1W x n m = w64 (tyW x.type (w64 (n + 1)) m + epW x.kids 0 (w64 (m - tyW x.type (w64 (n + 1)) m))) := by cases x; rw [e1W]; rfl
theorem none_abS (t : TyT) (S : Mem) : AFn Tryz.prog TabI 67 [tyV t] S (Same (.d (.bool (zeroS t))) S) := none_ab t S.boxes S.toks
def PTy (t : TyT) : Prop := ∀ (m : Int) (S : Mem), AFn Tryz.prog TabI 41 [tyV t, .d (.int .i64 m)] S (Same (.d (.int .i64 (tpW t m))) S)
set_option maxHeartbeats 1000000 in
theorem ptyp_step (t : TyT) (h : ∀ x ∈ t.elem, PTy x) : PTy t := by
 intro m S
 refine AFn.same (v := .d (.int .i64 (tpW t m))) ?_ rfl rfl S
 generalize hres : tpW t m = res
 rw [tpW_elem] at hres
 unfold tyV
 refine b41.go 30 rfl fun hsm => ?_
 simp only [smw] at hsm
 simp only [W, seval, c41]
 have hf : Fits ⟨[[.d (.int .i64 t.kind), .d (.str t.name), .d (.sl (t.elem.map tyD))]], []⟩ := fun vs hvs => by
  simp only [List.mem_cons, List.not_mem_nil, or_false] at hvs
  subst hvs
  rfl
 refine ARun.loopB (fun a : Nat × Int => (envS 31 [(1, .d (.int .i64 m)), (2, .ptr 0 0), (5, .d (.int .i64 a.2)), (6, .d (.int .i64 a.1))], ⟨[[.d (.int .i64 t.kind), .d (.str t.name), .d (.sl (t.elem.map tyD))]], []⟩)) (fun a => a.1 ≤ t.elem.length ∧ tpsW (t.elem.drop a.1) a.2 m = res) (fun a => t.elem.length - a.1) (0, 1) ⟨by omega, hres⟩ ?_ rfl ?_
 ·skip
  refine Agree.env _ ?_
  simp only [agw, seval]
 rintro ⟨i, q⟩ ⟨h1, h2⟩ ih
 dsimp only at h1 h2 ih ⊢
 by_cases hlt : i < t.elem.length
 ·have hw := wrap_in ((i : Int) + 1) (by omega)
  have hlt' : decide ((i : Int) < (t.elem.length : Int)) = true := decide_eq_true (by omega)
  have hg := List.getElem?_eq_getElem hlt
  have hpx := h t.elem[i] (List.getElem_mem hlt)
  rw [drop_get hlt] at h2
  obtain ⟨x, hx⟩ : ∃ x, t.elem[i] = x := ⟨_, rfl⟩
  rw [hx] at hg h2 hpx
  rw [tpsW] at h2
  unfold PTy tyV at hpx
  cases hle : decide (q ≤ m)
  ·rw [if_neg (of_decide_eq_false hle)] at h2
   refine ARun.go 200 ?_
   simp only [W, seval, c41, hlt', hle]
   refine ARun.ret Tryz.func41 rfl (Left.empty ?_)
   rw [h2]
   exact ⟨rfl, rfl⟩
  ·rw [if_pos (of_decide_eq_true hle)] at h2
   refine ARun.go 200 ?_
   simp only [W, seval, c41, List.getElem?_map, hg, hlt', hle, tyD_eq]
   refine callS_fn (hpx _ _) ?_
   rintro _ _ ⟨rfl, rfl⟩
   refine ARun.go 200 ?_
   simp only [W, seval, c41, hw]
   refine ih (i + 1, w64 (q + tpW x (w64 (m - q)))) ⟨hlt, h2⟩ (by dsimp only; omega) _ _ [] _ rfl ⟨Nat.zero_le _, Nat.zero_le _⟩ hf ?_
   refine AgreeF.env _ ?_
   simp only [agf, seval, w64]
   exact rfl
 ·have hlt' : decide ((i : Int) < (t.elem.length : Int)) = false := decide_eq_false (by omega)
  rw [List.drop_eq_nil_of_le (by omega), tpsW] at h2
  refine ARun.go 200 ?_
  simp only [W, seval, c41, hlt']
  refine ARun.ret Tryz.func41 rfl (Left.empty ?_)
  rw [h2]
  exact ⟨rfl, rfl⟩
mutual
theorem ptyp_ab : ∀ t : TyT, PTy t
 | .mk k n es => ptyp_step (.mk k n es) (ptyp_all es)
theorem ptyp_all : ∀ l : List TyT, ∀ x ∈ l, PTy x
 | [], _, h => absurd h List.not_mem_nil
 | y :: l, x, h => by
  rcases List.mem_cons.1 h with e | e
  ·rw [e]; exact ptyp_ab y
  ·exact ptyp_all l x e
end
set_option maxHeartbeats 1000000 in
theorem pparams_ab (l : List PaT) (m : Int) (S : Mem) : AFn Tryz.prog TabI 40 [.d (.sl (l.map paD)), .d (.int .i64 m)] S (Same (.d (.int .i64 (ppW l 0 m))) S) := by
 refine AFn.same (v := .d (.int .i64 (ppW l 0 m))) ?_ rfl rfl S
 generalize hres : ppW l 0 m = res
 refine b40.go 30 rfl fun hsm => ?_
 simp only [smw] at hsm
 simp only [W, seval, c40]
 refine ARun.loopW (fun a : Nat × Int => (envS 31 [(0, .d (.sl (l.map paD))), (1, .d (.int .i64 m)), (5, .d (.int .i64 a.2)), (6, .d (.int .i64 a.1))], ⟨[], []⟩)) (fun a => a.1 ≤ l.length ∧ ppW (l.drop a.1) a.2 m = res) (fun a => l.length - a.1) (0, 0) ⟨by omega, hres⟩ ?_ rfl ?_
 ·skip
  refine Agree.env _ ?_
  simp only [agw, seval]
 rintro ⟨i, q⟩ ⟨h1, h2⟩ ih
 dsimp only at h1 h2 ih ⊢
 by_cases hlt : i < l.length
 ·have hw := wrap_in ((i : Int) + 1) (by omega)
  have hlt' : decide ((i : Int) < (l.length : Int)) = true := decide_eq_true (by omega)
  have hg := List.getElem?_eq_getElem hlt
  rw [drop_get hlt] at h2
  obtain ⟨x, hx⟩ : ∃ x, l[i] = x := ⟨_, rfl⟩
  rw [hx] at hg h2
  rw [ppW] at h2
  have hpx := ptyp_ab x.type
  unfold PTy tyV at hpx
  cases hle : decide (q ≤ m)
  ·rw [if_neg (of_decide_eq_false hle)] at h2
   refine ARun.go 200 ?_
   simp only [W, seval, c40, hlt', hle]
   refine ARun.ret Tryz.func40 rfl (Left.empty ?_)
   rw [h2]
   exact ⟨rfl, rfl⟩
  ·rw [if_pos (of_decide_eq_true hle)] at h2
   refine ARun.go 200 ?_
   simp only [W, seval, c40, List.getElem?_map, hg, hlt', hle, paD_eq]
   refine callS_fn (hpx _ _) ?_
   rintro _ _ ⟨rfl, rfl⟩
   refine ARun.go 200 ?_
   simp only [W, seval, c40, hw]
   refine ih (i + 1, w64 (w64 (q + 1) + tpW x.type (w64 (m - q)))) ⟨hlt, h2⟩ (by dsimp only; omega) _ _ ?_ rfl
   refine Agree.env _ ?_
   simp only [agw, seval, w64]
 ·have hlt' : decide ((i : Int) < (l.length : Int)) = false := decide_eq_false (by omega)
  rw [List.drop_eq_nil_of_le (by omega), ppW] at h2
  refine ARun.go 200 ?_
  simp only [W, seval, c40, hlt']
  refine ARun.ret Tryz.func40 rfl (Left.empty ?_)
  rw [h2]
  exact ⟨rfl, rfl⟩
def PEx (l : List ExT) : Prop := ∀ (m : Int) (S : Mem), AFn Tryz.prog TabI 68 [.d (.sl (l.map exD)), .d (.int .i64 m)] S (Same (.d (.int .i64 (epW l 0 m))) S)
set_option maxHeartbeats 1000000 in
theorem pexprs_step (l : List ExT) (h : ∀ x ∈ l, PEx x.kids) : PEx l := by
 intro m S
 refine AFn.same (v := .d (.int .i64 (epW l 0 m))) ?_ rfl rfl S
 generalize hres : epW l 0 m = res
 refine b68.go 30 rfl fun hsm => ?_
 simp only [smw] at hsm
 simp only [W, seval, c68]
 refine ARun.loopW (fun a : Nat × Int => (envS 50 [(0, .d (.sl (l.map exD))), (1, .d (.int .i64 m)), (5, .d (.int .i64 a.2)), (6, .d (.int .i64 a.1))], ⟨[], []⟩)) (fun a => a.1 ≤ l.length ∧ epW (l.drop a.1) a.2 m = res) (fun a => l.length - a.1) (0, 0) ⟨by omega, hres⟩ ?_ rfl ?_
 ·skip
  refine Agree.env _ ?_
  simp only [agw, seval]
 rintro ⟨i, q⟩ ⟨h1, h2⟩ ih
 dsimp only at h1 h2 ih ⊢
 by_cases hlt : i < l.length
 ·have hw := wrap_in ((i : Int) + 1) (by omega)
  have hlt' : decide ((i : Int) < (l.length : Int)) = true := decide_eq_true (by omega)
  have hg := List.getElem?_eq_getElem hlt
  have hcx := h l[i] (List.getElem_mem hlt)
  rw [drop_get hlt] at h2
  obtain ⟨x, hx⟩ : ∃ x, l[i] = x := ⟨_, rfl⟩
  rw [hx] at hg h2 hcx
  rw [epW] at h2
  have hpx := ptyp_ab x.type
  unfold PTy tyV at hpx
  have hz := none_abS x.type
  unfold tyV at hz
  cases hle : decide (q ≤ m)
  ·rw [if_neg (of_decide_eq_false hle)] at h2
   refine ARun.go 200 ?_
   simp only [W, seval, c68, hlt', hle]
   refine ARun.ret Tryz.func68 rfl (Left.empty ?_)
   rw [h2]
   exact ⟨rfl, rfl⟩
  ·rw [if_pos (of_decide_eq_true hle), e1W_kids] at h2
   refine ARun.go 200 ?_
   simp only [W, seval, c68, List.getElem?_map, hg, hlt', hle, exD_eq]
   refine callS_fn (hz _) ?_
   rintro _ _ ⟨rfl, rfl⟩
   cases hzs : zeroS x.type
   case' false =>
    have ht : tyW x.type (w64 (q + 1)) m = w64 (w64 (q + 1) + tpW x.type (w64 (m - w64 (q + 1)))) := if_neg (by rw [hzs]; decide)
    simp only [w64] at ht
    refine ARun.go 200 ?_
    simp only [W, seval, c68, List.getElem?_map, hg, hzs, exD_eq]
    refine callS_fn (hpx _ _) ?_
    rintro _ _ ⟨rfl, rfl⟩
    refine ARun.go 200 ?_
    simp only [W, seval, c68, List.getElem?_map, hg, exD_eq]
   case' true =>
    have ht : tyW x.type (w64 (q + 1)) m = w64 (q + 1) := if_pos hzs
    simp only [w64] at ht
    refine ARun.go 200 ?_
    simp only [W, seval, c68, List.getElem?_map, hg, hzs, exD_eq]
   all_goals
    refine callS_fn (hcx _ _) ?_
    rintro _ _ ⟨rfl, rfl⟩
    refine ARun.go 200 ?_
    simp only [W, seval, c68, hw]
    refine ih (i + 1, w64 (tyW x.type (w64 (q + 1)) m + epW x.kids 0 (w64 (m - tyW x.type (w64 (q + 1)) m)))) ⟨hlt, h2⟩ (by dsimp only; omega) _ _ ?_ rfl
    refine Agree.env _ ?_
    simp only [agw, seval, w64, ht]
 ·have hlt' : decide ((i : Int) < (l.length : Int)) = false := decide_eq_false (by omega)
  rw [List.drop_eq_nil_of_le (by omega), epW] at h2
  refine ARun.go 200 ?_
  simp only [W, seval, c68, hlt']
  refine ARun.ret Tryz.func68 rfl (Left.empty ?_)
  rw [h2]
  exact ⟨rfl, rfl⟩
mutual
theorem pexprs_one : ∀ t : ExT, PEx t.kids
 | .mk _ _ _ _ _ es => pexprs_step es (pexprs_all es)
theorem pexprs_all : ∀ l : List ExT, ∀ x ∈ l, PEx x.kids
 | [], _, h => absurd h List.not_mem_nil
 | y :: l, x, h => by
  rcases List.mem_cons.1 h with e | e
  ·rw [e]; exact pexprs_one y
  ·exact pexprs_all l x e
end
theorem pexprs_ab (l : List ExT) : PEx l := pexprs_step l (pexprs_all l)
def c42 := by
 have c := KK_of Tryz.f42 (by conv => lhs; cbv)
 dsimp only [KK, KxP, doO, opO, List.map_cons, List.map_nil, List.toList_toArray] at c
 exact c
theorem b42 : FnIs Tryz.prog 42 Tryz.f42 113 := ⟨Tryz.func42, by kernel_rfl⟩
def c11 := by
 have c := KK_of Tryz.f11 (by conv => lhs; cbv)
 dsimp only [KK, KxP, doO, opO, List.map_cons, List.map_nil, List.toList_toArray] at c
 exact c
theorem b11 : FnIs Tryz.prog 11 Tryz.f11 113 := ⟨Tryz.func11, by kernel_rfl⟩
def c5 := by
 have c := KK_of Tryz.f5 (by conv => lhs; cbv)
 dsimp only [KK, KxP, doO, opO, List.map_cons, List.map_nil, List.toList_toArray] at c
 exact c
theorem b5 : FnIs Tryz.prog 5 Tryz.f5 6 := ⟨Tryz.func5, by kernel_rfl⟩
mutual
def spW : List StT → Int → Int → Int
 | [], n, _ => n
 | s :: l, n, m => if n ≤ m then spW l (s1W s n m) m else n
def s1W : StT → Int → Int → Int
 | .mk _ _ ty ls es b e cs, n, m =>
  csW cs (w64 (w64 (w64 (w64 (tyW ty (w64 (n + 1)) m + epW ls 0 (w64 (m - tyW ty (w64 (n + 1)) m))) + epW es 0 (w64 (m - tyW ty (w64 (n + 1)) m))) + spW b 0 (w64 (m - w64 (w64 (tyW ty (w64 (n + 1)) m + epW ls 0 (w64 (m - tyW ty (w64 (n + 1)) m))) + epW es 0 (w64 (m - tyW ty (w64 (n + 1)) m)))))) + spW e 0 (w64 (m - w64 (w64 (tyW ty (w64 (n + 1)) m + epW ls 0 (w64 (m - tyW ty (w64 (n + 1)) m))) + epW es 0 (w64 (m - tyW ty (w64 (n + 1)) m))))))) m
def csW : List CaT → Int → Int → Int
 | [], n, _ => n
 | .mk _ b :: l, n, m => if n ≤ m then csW l (w64 (w64 (n + 1) + spW b 0 (w64 (m - n)))) m else n
end
theorem csW_cons (k : CaT) (l : List CaT) (n m : Int) : csW (k :: l) n m = if n ≤ m then csW l (w64 (w64 (n + 1) + spW k.body 0 (w64 (m - n)))) m else n := by cases k; rw [csW]; rfl
theorem s1W_mk (s : StT) (n m n2 n3 : Int) (h2 : tyW s.type (w64 (n + 1)) m = n2) (h3 : w64 (w64 (n2 + epW s.lefts 0 (w64 (m - n2))) + epW s.exprs 0 (w64 (m - n2))) = n3) :
 s1W s n m = csW s.cases (w64 (w64 (n3 + spW s.body 0 (w64 (m - n3))) + spW s.els 0 (w64 (m - n3)))) m := by
 subst h2
 subst h3
 cases s
 rw [s1W]
 rfl
def PSt (l : List StT) : Prop := ∀ (m : Int) (S : Mem), AFn Tryz.prog TabI 42 [.d (.sl (l.map stD)), .d (.int .i64 m)] S (Same (.d (.int .i64 (spW l 0 m))) S)
set_option maxHeartbeats 4000000 in
theorem pstmts_step (l : List StT) (h : ∀ x ∈ l, PSt x.body ∧ PSt x.els ∧ ∀ k ∈ x.cases, PSt k.body) : PSt l := by
 intro m S
 refine AFn.same (v := .d (.int .i64 (spW l 0 m))) ?_ rfl rfl S
 generalize hres : spW l 0 m = res
 refine b42.go 30 rfl fun hsm => ?_
 simp only [smw] at hsm
 simp only [W, seval, c42]
 refine ARun.loopW (fun a : Nat × Int => (envS 113 [(0, .d (.sl (l.map stD))), (1, .d (.int .i64 m)), (5, .d (.int .i64 a.2)), (6, .d (.int .i64 a.1))], ⟨[], []⟩)) (fun a => a.1 ≤ l.length ∧ spW (l.drop a.1) a.2 m = res) (fun a => l.length - a.1) (0, 0) ⟨by omega, hres⟩ ?_ rfl ?_
 ·skip
  refine Agree.env _ ?_
  simp only [agw, seval]
 rintro ⟨i, q⟩ ⟨h1, h2⟩ ih
 dsimp only at h1 h2 ih ⊢
 by_cases hlt : i < l.length
 ·have hw := wrap_in ((i : Int) + 1) (by omega)
  have hlt' : decide ((i : Int) < (l.length : Int)) = true := decide_eq_true (by omega)
  have hg := List.getElem?_eq_getElem hlt
  have hcx := h l[i] (List.getElem_mem hlt)
  rw [drop_get hlt] at h2
  obtain ⟨x, hx⟩ : ∃ x, l[i] = x := ⟨_, rfl⟩
  rw [hx] at hg h2 hcx
  obtain ⟨hxb, hxe, hxc⟩ := hcx
  have hpx := ptyp_ab x.type
  unfold PTy tyV at hpx
  have hz := none_abS x.type
  unfold tyV at hz
  rw [spW] at h2
  cases hle : decide (q ≤ m)
  ·rw [if_neg (of_decide_eq_false hle)] at h2
   refine ARun.go 200 ?_
   simp only [W, seval, c42, hlt', hle]
   refine ARun.ret Tryz.func42 rfl (Left.empty ?_)
   rw [h2]
   exact ⟨rfl, rfl⟩
  rw [if_pos (of_decide_eq_true hle)] at h2
  obtain ⟨n2, hn2⟩ : ∃ n2, tyW x.type (w64 (q + 1)) m = n2 := ⟨_, rfl⟩
  obtain ⟨n3, hn3⟩ : ∃ n3, w64 (w64 (n2 + epW x.lefts 0 (w64 (m - n2))) + epW x.exprs 0 (w64 (m - n2))) = n3 := ⟨_, rfl⟩
  obtain ⟨n4, hn4⟩ : ∃ n4, w64 (w64 (n3 + spW x.body 0 (w64 (m - n3))) + spW x.els 0 (w64 (m - n3))) = n4 := ⟨_, rfl⟩
  rw [s1W_mk x q m n2 n3 hn2 hn3, hn4] at h2
  refine ARun.go 200 ?_
  simp only [W, seval, c42, List.getElem?_map, hg, hlt', hle, stD_eq]
  refine callS_fn (hz _) ?_
  rintro _ _ ⟨rfl, rfl⟩
  cases hzs : zeroS x.type
  case' false =>
   have ht : w64 (w64 (q + 1) + tpW x.type (w64 (m - w64 (q + 1)))) = n2 := by rw [← hn2]; exact (if_neg (by rw [hzs]; decide)).symm
   simp only [w64] at ht
   refine ARun.go 200 ?_
   simp only [W, seval, c42, List.getElem?_map, hg, hzs, stD_eq]
   refine callS_fn (hpx _ _) ?_
   rintro _ _ ⟨rfl, rfl⟩
   refine ARun.go 200 ?_
   simp only [W, seval, c42, List.getElem?_map, hg, stD_eq, ht]
  case' true =>
   have ht : w64 (q + 1) = n2 := by rw [← hn2]; exact (if_pos hzs).symm
   simp only [w64] at ht
   refine ARun.go 200 ?_
   simp only [W, seval, c42, List.getElem?_map, hg, hzs, stD_eq, ht]
  all_goals
   clear ht hn2 hle hz hpx
   simp only [w64] at hn3 hn4
   refine ARun.draw (by kernel_rfl) (by kernel_rfl) (lexQ_ok 60 _ _ ?_)
   simp only [W, seval, c42, List.getElem?_map, hg, stD_eq, hlt]
   refine ⟨_, pexprs_ab x.lefts _ _, ?_⟩
   simp only [W, seval, c42, List.getElem?_map, hg, stD_eq, hlt]
   refine ⟨_, pexprs_ab x.exprs _ _, ?_⟩
   simp only [W, seval, c42, List.getElem?_map, hg, stD_eq, hlt, hn3]
   refine ARun.go 20 ?_
   simp only [W, seval, c42, hn3]
   refine ARun.draw (by kernel_rfl) (by kernel_rfl) (lexQ_ok 60 _ _ ?_)
   simp only [W, seval, c42, List.getElem?_map, hg, stD_eq, hlt]
   refine ⟨_, hxb _ _, ?_⟩
   simp only [W, seval, c42, List.getElem?_map, hg, stD_eq, hlt]
   refine ⟨_, hxe _ _, ?_⟩
   simp only [W, seval, c42, List.getElem?_map, hg, stD_eq, hlt, hn4]
   refine ARun.go 20 ?_
   simp only [W, seval, c42, hn4]
   clear hn3 hn4
   refine ARun.loopW (fun b : Nat × Int => (envS 113 [(0, .d (.sl (l.map stD))), (1, .d (.int .i64 m)), (5, .d (.int .i64 b.2)), (6, .d (.int .i64 i)), (7, .d (.int .i64 b.1))], ⟨[], []⟩)) (fun b => b.1 ≤ x.cases.length ∧ spW (l.drop (i + 1)) (csW (x.cases.drop b.1) b.2 m) m = res) (fun b => x.cases.length - b.1) (0, n4) ⟨by omega, h2⟩ ?_ rfl ?_
   ·skip
    refine Agree.env _ ?_
    simp only [agw, seval]
   rintro ⟨j, r⟩ ⟨g1, g2⟩ ih2
   dsimp only at g1 g2 ih2 ⊢
   by_cases hjt : j < x.cases.length
   ·have hgj := List.getElem?_eq_getElem hjt
    have hkx := hxc x.cases[j] (List.getElem_mem hjt)
    rw [drop_get hjt] at g2
    obtain ⟨k, hk⟩ : ∃ k, x.cases[j] = k := ⟨_, rfl⟩
    rw [hk] at hgj g2 hkx
    rw [csW_cons] at g2
    have hjt' : decide ((j : Int) < (x.cases.length : Int)) = true := decide_eq_true (by omega)
    cases hrm : decide (r ≤ m)
    ·rw [if_neg (of_decide_eq_false hrm)] at g2
     refine ARun.go 200 ?_
     simp only [W, seval, c42, List.getElem?_map, hg, hjt', hrm, stD_eq, hw]
     refine ih (i + 1, r) ⟨hlt, g2⟩ (by dsimp only; omega) _ _ ?_ rfl
     refine Agree.env _ ?_
     simp only [agw, seval]
    ·rw [if_pos (of_decide_eq_true hrm)] at g2
     refine ARun.go 200 ?_
     simp only [W, seval, c42, List.getElem?_map, hg, hjt', hrm, stD_eq, hgj, caD_eq]
     refine callS_fn (hkx _ _) ?_
     rintro _ _ ⟨rfl, rfl⟩
     refine ARun.small fun hsm2 => ?_
     have hcl : x.cases.length ≤ 9223372036854775807 := by
      have := (smL_iff _).1 hsm2 86 (by simp [envS, setV])
      simpa [envS, setV, lk, sm] using this
     clear hsm2
     have hwj := wrap_in ((j : Int) + 1) (by omega)
     refine ARun.go 200 ?_
     simp only [W, seval, c42, hwj]
     refine ih2 (j + 1, w64 (w64 (r + 1) + spW k.body 0 (w64 (m - r)))) ⟨hjt, g2⟩ (by dsimp only; omega) _ _ ?_ rfl
     refine Agree.env _ ?_
     simp only [agw, seval, w64]
   ·have hjt' : decide ((j : Int) < (x.cases.length : Int)) = false := decide_eq_false (by omega)
    have hnil : x.cases.drop j = [] := List.drop_eq_nil_of_le (by omega)
    rw [hnil, csW] at g2
    refine ARun.go 200 ?_
    simp only [W, seval, c42, List.getElem?_map, hg, hjt', stD_eq, hw]
    refine ih (i + 1, r) ⟨hlt, g2⟩ (by dsimp only; omega) _ _ ?_ rfl
    refine Agree.env _ ?_
    simp only [agw, seval]
 ·have hlt' : decide ((i : Int) < (l.length : Int)) = false := decide_eq_false (by omega)
  rw [List.drop_eq_nil_of_le (by omega), spW] at h2
  refine ARun.go 200 ?_
  simp only [W, seval, c42, hlt']
  refine ARun.ret Tryz.func42 rfl (Left.empty ?_)
  rw [h2]
  exact ⟨rfl, rfl⟩
mutual
theorem pst_one : ∀ s : StT, PSt s.body ∧ PSt s.els ∧ ∀ k ∈ s.cases, PSt k.body
 | .mk _ _ _ _ _ b e cs => ⟨pstmts_step b (pst_all b), pstmts_step e (pst_all e), pst_cas cs⟩
theorem pst_all : ∀ l : List StT, ∀ x ∈ l, PSt x.body ∧ PSt x.els ∧ ∀ k ∈ x.cases, PSt k.body
 | [], _, h => absurd h List.not_mem_nil
 | y :: l, x, h => by
  rcases List.mem_cons.1 h with e | e
  ·rw [e]; exact pst_one y
  ·exact pst_all l x e
theorem pst_cas : ∀ l : List CaT, ∀ k ∈ l, PSt k.body
 | [], _, h => absurd h List.not_mem_nil
 | .mk i b :: l, x, h => by
  rcases List.mem_cons.1 h with e | e
  ·rw [e]; exact pstmts_step b (pst_all b)
  ·exact pst_cas l x e
end
theorem pstmts_ab (l : List StT) : PSt l := pstmts_step l (pst_all l)
def rpW : List TyT → Int → Int → Int
 | [], n, _ => n
 | t :: l, n, m => if n ≤ m then rpW l (w64 (n + tpW t (w64 (m - n)))) m else n
def supW : List SuT → Int → Int → Int
 | [], n, _ => n
 | s :: l, n, m => if n ≤ m then supW l (w64 (n + ppW s.fields 0 (w64 (m - n)))) m else n
def f1W (f : FuT) (n m : Int) : Int := w64 (rpW f.results (w64 (n + ppW f.params 0 (w64 (m - n)))) m + spW f.body 0 (w64 (m - rpW f.results (w64 (n + ppW f.params 0 (w64 (m - n)))) m)))
def fupW : List FuT → Int → Int → Int
 | [], n, _ => n
 | f :: l, n, m => if n ≤ m then fupW l (f1W f n m) m else n
def prW (p : PrT) (m : Int) : Int :=
 if m < fupW p.funcs (supW p.structs (w64 ((p.structs.length : Int) + p.funcs.length)) m) m then w64 (m + 1) else fupW p.funcs (supW p.structs (w64 ((p.structs.length : Int) + p.funcs.length)) m) m
set_option maxHeartbeats 4000000 in
theorem refParts_ab (pr : PrT) (m : Int) (S : Mem) : AFn Tryz.prog TabI 11 [prV pr, .d (.int .i64 m)] S (Same (.d (.int .i64 (prW pr m))) S) := by
 refine AFn.same (v := .d (.int .i64 (prW pr m))) ?_ rfl rfl S
 generalize hres : prW pr m = res
 obtain ⟨n0, hn0⟩ : ∃ n, w64 ((pr.structs.length : Int) + pr.funcs.length) = n := ⟨_, rfl⟩
 obtain ⟨n1, hn1⟩ : ∃ n, supW pr.structs n0 m = n := ⟨_, rfl⟩
 obtain ⟨n2, hn2⟩ : ∃ n, fupW pr.funcs n1 m = n := ⟨_, rfl⟩
 have hpr : (if m < n2 then w64 (m + 1) else n2) = res := by rw [← hres, ← hn2, ← hn1, ← hn0]; rfl
 simp only [w64] at hn0 hpr
 unfold prV
 refine b11.go 30 rfl fun hsm => ?_
 simp only [smw] at hsm
 simp only [W, seval, c11, hn0]
 have hf : Fits ⟨[[.d (.sl (pr.structs.map suD)), .d (.sl (pr.funcs.map fuD))]], []⟩ := fun vs hvs => by
  simp only [List.mem_cons, List.not_mem_nil, or_false] at hvs
  subst hvs
  rfl
 have hrest : ∀ env' : List V, EnvW (envS 113 [(1, .d (.int .i64 m)), (2, .ptr 0 0), (5, .d (.int .i64 n1)), (7, .d (.int .i64 0))]) env' →
  ARun Tryz.prog TabI (0, 0) 11 [.code (.loop (kF Tryz.f11 24)), .inBlock 2, .code (kF Tryz.f11 51)] env' ⟨[[.d (.sl (pr.structs.map suD)), .d (.sl (pr.funcs.map fuD))]], []⟩ (Ab.Left ⟨[], []⟩ (Same (.d (.int .i64 res)) ⟨[], []⟩)) := by
  intro env' henv
  refine ARun.weak henv ?_
  refine ARun.loopB (fun a : Nat × Int => (envS 113 [(1, .d (.int .i64 m)), (2, .ptr 0 0), (5, .d (.int .i64 a.2)), (7, .d (.int .i64 a.1))], ⟨[[.d (.sl (pr.structs.map suD)), .d (.sl (pr.funcs.map fuD))]], []⟩)) (fun a => a.1 ≤ pr.funcs.length ∧ fupW (pr.funcs.drop a.1) a.2 m = n2) (fun a => pr.funcs.length - a.1) (0, n1) ⟨by omega, hn2⟩ ?_ rfl ?_
  ·skip
   refine Agree.env _ ?_
   simp only [agw, seval]
  rintro ⟨i, q⟩ ⟨h1, h2⟩ ih
  dsimp only at h1 h2 ih ⊢
  by_cases hlt : i < pr.funcs.length
  case' pos =>
   have hlt' : decide ((i : Int) < (pr.funcs.length : Int)) = true := decide_eq_true (by omega)
   by_cases hle : q ≤ m
   case' pos =>
    have hle' : decide (q ≤ m) = true := decide_eq_true hle
    have hw := wrap_in ((i : Int) + 1) (by omega)
    have hg := List.getElem?_eq_getElem hlt
    rw [drop_get hlt, fupW, if_pos hle] at h2
    obtain ⟨x, hx⟩ : ∃ x, pr.funcs[i] = x := ⟨_, rfl⟩
    rw [hx] at hg h2
    obtain ⟨p1, hp1⟩ : ∃ n, w64 (q + ppW x.params 0 (w64 (m - q))) = n := ⟨_, rfl⟩
    obtain ⟨p2, hp2⟩ : ∃ n, rpW x.results p1 m = n := ⟨_, rfl⟩
    obtain ⟨p3, hp3⟩ : ∃ n, w64 (p2 + spW x.body 0 (w64 (m - p2))) = n := ⟨_, rfl⟩
    have hf1 : f1W x q m = p3 := by unfold f1W; rw [hp1, hp2, hp3]
    rw [hf1] at h2
    simp only [w64] at hp1 hp3
    refine ARun.go 200 ?_
    simp only [W, seval, c11, List.getElem?_map, hg, hlt', hle', fuD_eq]
    refine callS_fn (pparams_ab x.params _ _) ?_
    rintro _ _ ⟨rfl, rfl⟩
    refine ARun.go 200 ?_
    simp only [W, seval, c11, hp1]
    refine ARun.loopB (fun a : Nat × Int => (envS 113 [(1, .d (.int .i64 m)), (2, .ptr 0 0), (5, .d (.int .i64 a.2)), (7, .d (.int .i64 i)), (8, .d (.int .i64 a.1))], ⟨[[.d (.sl (pr.structs.map suD)), .d (.sl (pr.funcs.map fuD))]], []⟩)) (fun a => a.1 ≤ x.results.length ∧ rpW (x.results.drop a.1) a.2 m = p2) (fun a => x.results.length - a.1) (0, p1) ⟨by omega, hp2⟩ ?_ rfl ?_
    ·skip
     refine Agree.env _ ?_
     simp only [agw, seval]
    rintro ⟨j, r⟩ ⟨g1, g2⟩ ih2
    dsimp only at g1 g2 ih2 ⊢
    by_cases hjt : j < x.results.length
    case' pos =>
     have hjt' : decide ((j : Int) < (x.results.length : Int)) = true := decide_eq_true (by omega)
     by_cases hrm : r ≤ m
     case' pos =>
      have hrm' : decide (r ≤ m) = true := decide_eq_true hrm
      have hgj := List.getElem?_eq_getElem hjt
      rw [drop_get hjt, rpW, if_pos hrm] at g2
      obtain ⟨k, hk⟩ : ∃ k, x.results[j] = k := ⟨_, rfl⟩
      rw [hk] at hgj g2
      have hpx := ptyp_ab k
      unfold PTy tyV at hpx
      refine ARun.go 200 ?_
      simp only [W, seval, c11, List.getElem?_map, hg, hgj, hjt', hrm', fuD_eq, tyD_eq]
      refine callS_fn (hpx _ _) ?_
      rintro _ _ ⟨rfl, rfl⟩
      refine ARun.small fun hsm2 => ?_
      have hcl : x.results.length ≤ 9223372036854775807 := by
       have := (smL_iff _).1 hsm2 70 (by simp [envS, setV])
       simpa [envS, setV, lk, sm] using this
      clear hsm2
      have hwj := wrap_in ((j : Int) + 1) (by omega)
      refine ARun.go 200 ?_
      simp only [W, seval, c11, hwj]
      refine ih2 (j + 1, w64 (r + tpW k (w64 (m - r)))) ⟨hjt, g2⟩ (by dsimp only; omega) _ _ [] _ rfl ⟨Nat.zero_le _, Nat.zero_le _⟩ hf ?_
      refine AgreeF.env _ ?_
      simp only [agf, seval, w64]
      exact rfl
     case' neg =>
      have hrm' : decide (r ≤ m) = false := decide_eq_false hrm
      rw [drop_get hjt, rpW, if_neg hrm] at g2
      refine ARun.go 200 ?_
      simp only [W, seval, c11, List.getElem?_map, hg, hjt', hrm', fuD_eq]
    case' neg =>
     have hjt' : decide ((j : Int) < (x.results.length : Int)) = false := decide_eq_false (by omega)
     have hnil : x.results.drop j = [] := List.drop_eq_nil_of_le (by omega)
     rw [hnil, rpW] at g2
     refine ARun.go 200 ?_
     simp only [W, seval, c11, List.getElem?_map, hg, hjt', fuD_eq]
    iterate 2
     subst g2
     refine callS_fn (pstmts_ab x.body _ _) ?_
     rintro _ _ ⟨rfl, rfl⟩
     refine ARun.go 200 ?_
     simp only [W, seval, c11, hp3, hw]
     refine ih (i + 1, p3) ⟨hlt, h2⟩ (by dsimp only; omega) _ _ [] _ rfl ⟨Nat.zero_le _, Nat.zero_le _⟩ hf ?_
     refine AgreeF.env _ ?_
     simp only [agf, seval]
     exact rfl
   case' neg =>
    have hle' : decide (q ≤ m) = false := decide_eq_false hle
    rw [drop_get hlt, fupW, if_neg hle] at h2
    refine ARun.go 40 ?_
    simp only [W, seval, c11, hlt', hle']
  case' neg =>
   have hlt' : decide ((i : Int) < (pr.funcs.length : Int)) = false := decide_eq_false (by omega)
   have hnil : pr.funcs.drop i = [] := List.drop_eq_nil_of_le (by omega)
   rw [hnil, fupW] at h2
   refine ARun.go 40 ?_
   simp only [W, seval, c11, hlt']
  all_goals
   subst h2
   by_cases hm : m < q
   ·have hm' : decide (m < q) = true := decide_eq_true hm
    rw [if_pos hm] at hpr
    simp only [W, seval, c11, hm']
    refine ARun.ret Tryz.func11 rfl (Left.empty ?_)
    rw [← hpr]
    exact ⟨rfl, rfl⟩
   ·have hm' : decide (m < q) = false := decide_eq_false hm
    rw [if_neg hm] at hpr
    simp only [W, seval, c11, hm']
    refine ARun.ret Tryz.func11 rfl (Left.empty ?_)
    rw [← hpr]
    exact ⟨rfl, rfl⟩
 refine ARun.loopB (fun a : Nat × Int => (envS 113 [(1, .d (.int .i64 m)), (2, .ptr 0 0), (5, .d (.int .i64 a.2)), (6, .d (.int .i64 a.1))], ⟨[[.d (.sl (pr.structs.map suD)), .d (.sl (pr.funcs.map fuD))]], []⟩)) (fun a => a.1 ≤ pr.structs.length ∧ supW (pr.structs.drop a.1) a.2 m = n1) (fun a => pr.structs.length - a.1) (0, n0) ⟨by omega, hn1⟩ ?_ rfl ?_
 ·skip
  refine Agree.env _ ?_
  simp only [agw, seval]
 rintro ⟨i, q⟩ ⟨h1, h2⟩ ih
 dsimp only at h1 h2 ih ⊢
 by_cases hlt : i < pr.structs.length
 case' pos =>
  have hlt' : decide ((i : Int) < (pr.structs.length : Int)) = true := decide_eq_true (by omega)
  by_cases hle : q ≤ m
  case' pos =>
   have hle' : decide (q ≤ m) = true := decide_eq_true hle
   have hw := wrap_in ((i : Int) + 1) (by omega)
   have hg := List.getElem?_eq_getElem hlt
   rw [drop_get hlt, supW, if_pos hle] at h2
   obtain ⟨x, hx⟩ : ∃ x, pr.structs[i] = x := ⟨_, rfl⟩
   rw [hx] at hg h2
   refine ARun.go 200 ?_
   simp only [W, seval, c11, List.getElem?_map, hg, hlt', hle', suD_eq]
   refine callS_fn (pparams_ab x.fields _ _) ?_
   rintro _ _ ⟨rfl, rfl⟩
   refine ARun.go 200 ?_
   simp only [W, seval, c11, hw]
   refine ih (i + 1, w64 (q + ppW x.fields 0 (w64 (m - q)))) ⟨hlt, h2⟩ (by dsimp only; omega) _ _ [] _ rfl ⟨Nat.zero_le _, Nat.zero_le _⟩ hf ?_
   refine AgreeF.env _ ?_
   simp only [agf, seval, w64]
   exact rfl
  case' neg =>
   have hle' : decide (q ≤ m) = false := decide_eq_false hle
   rw [drop_get hlt, supW, if_neg hle] at h2
   subst h2
   refine ARun.go 200 ?_
   simp only [W, seval, c11, hlt', hle']
   refine hrest _ ?_
   refine Agree.env _ ?_
   simp only [agw, seval]
 case' neg =>
  have hlt' : decide ((i : Int) < (pr.structs.length : Int)) = false := decide_eq_false (by omega)
  rw [List.drop_eq_nil_of_le (by omega), supW] at h2
  subst h2
  refine ARun.go 200 ?_
  simp only [W, seval, c11, hlt']
  refine hrest _ ?_
  refine Agree.env _ ?_
  simp only [agw, seval]
theorem great_ab (pr : PrT) (S : Mem) : AFn Tryz.prog TabI 5 [prV pr] S (Same (.d (.bool (decide (2500 < prW pr 2500)))) S) := by
 refine AFn.same (v := .d (.bool (decide (2500 < prW pr 2500)))) ?_ rfl rfl S
 have h := refParts_ab pr 2500
 unfold prV at h ⊢
 refine b5.go 200 rfl fun _ => ?_
 simp only [W, seval, c5]
 refine callS_fn (h _) ?_
 rintro _ _ ⟨rfl, rfl⟩
 refine ARun.go 200 ?_
 simp only [W, seval, c5]
 refine ARun.ret Tryz.func5 rfl (Left.empty ?_)
 exact ⟨rfl, rfl⟩
theorem posE_mk (k : Int) (t : List UInt8) (i : Int) (ty : TyT) (ns : List (List UInt8)) (ks : List ExT) : posE (.mk k t i ty ns ks) = ((k = 3 → 0 ≤ i) ∧ ∀ x ∈ ks, posE x) := by
 conv => lhs; unfold posE
def PoSt (s : StT) : Prop := ∀ n, posSt n s
end Go.Proofs.YtfaoamebphckbaaGreatDoor
namespace Go.Proofs.YtfaoamebphckbaaGreatDoor
open Go.RowKit Go.Av
set_option linter.unusedSimpArgs false
theorem row_len {α : Type} {f : α → Int → Bool × Int} {c : α → Int} {g : α → Nat} : ∀ (l : List α) (p : Int), (∀ x ∈ l, ∀ q, (f x q).1 = true → (g x : Int) ≤ 1200 * c x) → (rowS f l p).1 = true → ((l.map g).sum : Int) ≤ 1200 * sumS c l
 | [], _, _, _ => by simp [sumS]
 | x :: l, p, h, hr => by
  obtain ⟨h1, h2⟩ := andS_true (f := f x) (g := rowS f l) hr
  have hx := h x List.mem_cons_self _ h1
  have hl := row_len l _ (fun y hy => h y (List.mem_cons_of_mem _ hy)) h2
  simp only [List.map_cons, List.sum_cons, sumS]
  omega
theorem sts_sum (k : Nat) : ∀ l : List StT, (stTs k l).length = (l.map fun s => (stT k s).length).sum
 | [] => by simp [stTs]
 | s :: l => by unfold stTs; rw [List.length_append, sts_sum k l]; simp
theorem hed_len (k : Nat) (key : List UInt8) (es : List ExT) : (hedT k key es).length = k + key.length + 4 + (exT (kidE es 0)).length := by
 unfold hedT tabT
 simp
 omega
theorem kid_len {es : List ExT} {d p : Int} (h : (exs40 es d p).1 = true) (hne : es.length = 1) : ((exT (kidE es 0)).length : Int) ≤ 700 * ecsS es := by
 obtain ⟨h1, _⟩ := andS_true (f := fun p => exsS es d p) h
 have := exs_len es d p h1
 match es, hne with
 | [x], _ =>
  unfold exTs exTs sumT sumT at this
  show ((exT x).length : Int) ≤ _
  omega
theorem exs_com {es : List ExT} {d p : Int} (h : (exs40 es d p).1 = true) : ((comT (exTs es)).length : Int) ≤ 700 * ecsS es := by
 obtain ⟨h1, _⟩ := andS_true (f := fun p => exsS es d p) h
 have h2 := exs_len es d p h1
 have h3 := com_len (exTs es) false
 have h4 := sumT_le (show 2 ≤ 304 by omega) (exTs es)
 unfold comT
 omega
theorem part_d {d p : Int} (h : (partS d p).1 = true) : d ≤ 60 := by
 have h2 : partOk d p = true := h
 unfold partOk at h2
 rw [Bool.and_eq_true, decide_eq_true_iff, decide_eq_true_iff] at h2
 exact h2.2
mutual
theorem ec_pos : ∀ x : ExT, 1 ≤ ecS x
 | .mk _ _ _ ty _ ks => by
  have := ecs_pos ks
  have := tc_pos ty
  unfold ecS
  split <;> omega
theorem ecs_pos : ∀ l : List ExT, 0 ≤ ecsS l
 | [] => by unfold ecsS; omega
 | x :: l => by
  have h1 := ec_pos x
  have h2 := ecs_pos l
  unfold ecsS
  omega
end
theorem sum_pos {α : Type} {c : α → Int} (h : ∀ x, 0 ≤ c x) : ∀ l : List α, 0 ≤ sumS c l
 | [] => Int.le_refl _
 | x :: l => by
  have h1 := h x
  have h2 := sum_pos h l
  unfold sumS
  omega
theorem stc_pos : ∀ (n : Nat) (s : StT), 0 ≤ stC n s
 | 0, _ => Int.le_refl _
 | n + 1, s => by
  have h := fun x => stc_pos n x
  have h1 := sum_pos (c := fun c : CaT => 1 + sumS (stC n) c.body) (fun c => by have := sum_pos h c.body; omega) s.cases
  have h2 := ecs_pos s.lefts
  have h3 := ecs_pos s.exprs
  have h4 := sum_pos h s.body
  have h5 := sum_pos h s.els
  have h6 := tc_pos s.type
  unfold stC
  split <;> omega
def StLen (n : Nat) : Prop := ∀ (s : StT) (d p : Int) (k : Nat), (stS n s d p).1 = true → (k : Int) ≤ d + 1 → ((stT k s).length : Int) ≤ 1200 * stC n s
theorem cas_len {n : Nat} (ih : StLen n) (d : Int) (k : Nat) (hk : (k : Int) ≤ d + 1) (hd : d ≤ 60) : ∀ (l : List CaT) (seen : List Int) (p : Int), (casS (stS n) d seen l p).1 = true → ((caTs k l).length : Int) ≤ 1200 * sumS (fun c : CaT => 1 + sumS (stC n) c.body) l
 | [], _, _, _ => by unfold caTs sumS; simp
 | .mk i b :: l, seen, p, h => by
  unfold casS at h
  obtain ⟨h1, h⟩ := andS_true (f := partS (d + 1)) h
  obtain ⟨_, h⟩ := andS_true h
  obtain ⟨h2, h⟩ := andS_true h
  have hb := row_len (f := fun s => stS n s (d + 2)) (c := stC n) (g := fun s => (stT (k + 1) s).length) b _ (fun s _ q hq => ih s (d + 2) q (k + 1) hq (by omega)) h2
  have hl := cas_len ih d k hk hd l _ _ h
  have hdg := dig_len 24 i.toNat
  unfold caTs sumS
  rw [show (CaT.mk i b).body = b from rfl]
  simp only [List.length_append, List.length_cons, List.length_nil, tabT, List.length_replicate, sts_sum]
  simp only [Int.natCast_add]
  omega
theorem stT_eq (n : Nat) (s : StT) : stT n s = if s.kind = 1 then tabT n ++ ([118, 97, 114, 32] ++ s.names.getD 0 [] ++ [32]) ++ typT s.type ++ [10]
 else if s.kind = 2 then tabT n ++ comT (exTs s.lefts) ++ ([32, 61, 32] ++ comT (exTs s.exprs) ++ [10])
 else if s.kind = 6 then tabT n ++ ([114, 101, 116, 117, 114, 110, 32] ++ comT (exTs s.exprs) ++ [10])
 else if s.kind = 3 then hedT n [105, 102] s.exprs ++ stTs (n + 1) s.body ++ (if s.els.isEmpty = true then [] else tabT n ++ [125, 32, 101, 108, 115, 101, 32, 123, 10] ++ stTs (n + 1) s.els) ++ (tabT n ++ [125, 10])
 else if s.kind = 4 then hedT n [102, 111, 114] s.exprs ++ stTs (n + 1) s.body ++ (tabT n ++ [125, 10])
 else hedT n [115, 119, 105, 116, 99, 104] s.exprs ++ caTs n s.cases ++ (if s.els.isEmpty = true then [] else tabT n ++ [100, 101, 102, 97, 117, 108, 116, 58, 10] ++ stTs (n + 1) s.els) ++ (tabT n ++ [125, 10]) := by
 cases s
 rw [stT]
 rfl
theorem st_len : ∀ n : Nat, StLen n
 | 0 => fun s d p k h => by cases h
 | n + 1 => by
  have ih := st_len n
  intro s d p k h hk
  unfold stS at h
  obtain ⟨h1, h⟩ := andS_true (f := partS d) h
  obtain ⟨h2, h⟩ := andS_true h
  obtain ⟨h3, h⟩ := andS_true h
  obtain ⟨h4, h⟩ := andS_true h
  obtain ⟨h5, h⟩ := andS_true h
  obtain ⟨h6, h⟩ := andS_true h
  obtain ⟨h7, h8⟩ := andS_true h
  have hd := part_d h1
  have h2 : sizedS s = true := by
   have : (sizedS s && decide (s.cases.length ≤ 40)) = true := h2
   simp only [Bool.and_eq_true] at this
   exact this.1
  have hcas := cas_len ih d k hk hd s.cases [] _ h4
  have hb := row_len (f := fun s => stS n s (d + 1)) (c := stC n) (g := fun s => (stT (k + 1) s).length) s.body _ (fun s _ q hq => ih s (d + 1) q (k + 1) hq (by omega)) h7
  have he := row_len (f := fun s => stS n s (d + 1)) (c := stC n) (g := fun s => (stT (k + 1) s).length) s.els _ (fun s _ q hq => ih s (d + 1) q (k + 1) hq (by omega)) h8
  have hls := exs_com h5
  have hes := exs_com h6
  have p1 := ecs_pos s.lefts
  have p2 := ecs_pos s.exprs
  have q1 := sum_pos (stc_pos n) s.body
  have q2 := sum_pos (stc_pos n) s.els
  have q3 := sum_pos (c := fun c : CaT => 1 + sumS (stC n) c.body) (fun c => by have := sum_pos (stc_pos n) c.body; omega) s.cases
  unfold stC
  unfold sizedS at h2
  dsimp only at h2
  rw [stT_eq]
  by_cases k1 : s.kind = 1
  ·rw [if_pos k1] at h2 h3 ⊢
   simp only [Bool.and_eq_true] at h2
   have ht := typ_len s.type _ _ h3
   have hn : (s.names.getD 0 []).length ≤ 300 := by
    have := h2.1.1.1.1.2
    revert this
    match s.names with
    | [x] => exact fun this => ident_len this
    | [] => exact fun h => by cases h
    | _ :: _ :: _ => exact fun h => by cases h
   rw [if_pos k1]
   simp only [List.length_append, List.length_cons, List.length_nil, tabT, List.length_replicate, Int.natCast_add]
   omega
  rw [if_neg k1] at h2 ⊢
  have k1' : ¬ s.kind = 1 := k1
  rw [if_neg k1']
  by_cases k2 : s.kind = 2
  ·rw [if_pos k2]
   simp only [List.length_append, List.length_cons, List.length_nil, tabT, List.length_replicate, Int.natCast_add]
   omega
  rw [if_neg k2] at h2 ⊢
  by_cases k6 : s.kind = 6
  ·rw [if_pos k6]
   simp only [List.length_append, List.length_cons, List.length_nil, tabT, List.length_replicate, Int.natCast_add]
   omega
  rw [if_neg k6]
  have hone : s.exprs.length = 1 := by
   by_cases k3 : s.kind = 3
   ·rw [if_pos k3] at h2
    simp only [Bool.and_eq_true] at h2
    have := h2.1.2
    revert this
    match s.exprs with
    | [x] => exact fun _ => rfl
    | [] => exact fun h => by cases h
    | _ :: _ :: _ => exact fun h => by cases h
   rw [if_neg k3] at h2
   by_cases k4 : s.kind = 4
   ·rw [if_pos k4] at h2
    simp only [Bool.and_eq_true] at h2
    have := h2.1.1.2
    revert this
    match s.exprs with
    | [x] => exact fun _ => rfl
    | [] => exact fun h => by cases h
    | _ :: _ :: _ => exact fun h => by cases h
   rw [if_neg k4] at h2
   by_cases k5 : s.kind = 5
   ·rw [if_pos k5] at h2
    simp only [Bool.and_eq_true] at h2
    have := h2.1.2
    revert this
    match s.exprs with
    | [x] => exact fun _ => rfl
    | [] => exact fun h => by cases h
    | _ :: _ :: _ => exact fun h => by cases h
   rw [if_neg k5, if_neg k6] at h2
   cases h2
  have hkid := kid_len h6 hone
  by_cases k3 : s.kind = 3
  ·rw [if_pos k3]
   simp only [List.length_append, List.length_cons, List.length_nil, tabT, List.length_replicate, Int.natCast_add, hed_len, sts_sum]
   split
   ·simp only [List.length_nil]
    omega
   ·simp only [List.length_append, List.length_cons, List.length_nil, List.length_replicate, Int.natCast_add, sts_sum]
    omega
  rw [if_neg k3]
  by_cases k4 : s.kind = 4
  ·rw [if_pos k4]
   simp only [List.length_append, List.length_cons, List.length_nil, tabT, List.length_replicate, Int.natCast_add, hed_len, sts_sum]
   omega
  rw [if_neg k4]
  simp only [List.length_append, List.length_cons, List.length_nil, tabT, List.length_replicate, Int.natCast_add, hed_len]
  split
  ·simp only [List.length_nil]
   omega
  ·simp only [List.length_append, List.length_cons, List.length_nil, List.length_replicate, Int.natCast_add, sts_sum]
   omega
theorem row_mem {α : Type} {f : α → Int → Bool × Int} : ∀ (l : List α) (p : Int), (rowS f l p).1 = true → ∀ x ∈ l, ∃ q, (f x q).1 = true
 | [], _, _, x, hx => absurd hx List.not_mem_nil
 | y :: l, p, h, x, hx => by
  obtain ⟨h1, h2⟩ := andS_true (f := f y) (g := rowS f l) h
  rcases List.mem_cons.1 hx with rfl | hx
  ·exact ⟨p, h1⟩
  ·exact row_mem l _ h2 x hx
theorem pa_all {most : Nat} {l : List PaT} {p : Int} (h : (paS most l p).1 = true) : ∀ x ∈ l, ((paT x).length : Int) ≤ 301 + 310 * tcS x.type := by
 intro x hx
 obtain ⟨h1, h2⟩ := andS_true (f := rowS _ l) h
 have h2 : (decide (l.length ≤ most) && diffS l.length (l.map PaT.name)) = true := h2
 rw [Bool.and_eq_true] at h2
 obtain ⟨q, hq⟩ := row_mem l _ h1 x hx
 obtain ⟨_, hq⟩ := andS_true (f := partS 0) hq
 have ht := typ_len x.type _ _ hq
 have hn := names_len (l := l.map PaT.name) (by rw [List.length_map]; exact h2.2) x.name (List.mem_map_of_mem hx)
 unfold paT
 simp only [List.length_append, List.length_cons, List.length_nil, Int.natCast_add]
 omega
theorem pa_sum : ∀ (l : List PaT), (∀ x ∈ l, ((paT x).length : Int) ≤ 301 + 310 * tcS x.type) → (sumT 304 (l.map paT) : Int) ≤ 1000 * paC l
 | [], _ => by simp [sumT, paC, sumS]
 | x :: l, h => by
  have h1 := h x List.mem_cons_self
  have h2 := pa_sum l fun y hy => h y (List.mem_cons_of_mem _ hy)
  have h3 := tc_pos x.type
  unfold paC at h2 ⊢
  simp only [List.map_cons, sumT, sumS]
  omega
theorem fl_len : ∀ l : List PaT, (flT l).length ≤ sumT 304 (l.map paT)
 | [] => by simp [flT, sumT]
 | x :: l => by
  have := fl_len l
  unfold flT
  simp only [List.map_cons, sumT, List.length_append, List.length_cons, List.length_nil]
  omega
theorem su_len {s : SuT} {p : Int} (h : (suS s p).1 = true) : ((sutT s).length : Int) ≤ 1200 * suC s := by
 obtain ⟨_, h⟩ := andS_true (f := partS 0) h
 obtain ⟨h1, h⟩ := andS_true h
 have hn := ident_len (show identS s.name = true from h1)
 have h2 := pa_sum _ (pa_all h)
 have h3 := fl_len s.fields
 have h4 : 0 ≤ paC s.fields := sum_pos (fun x => by have := tc_pos x.type; omega) _
 unfold sutT suC
 simp only [List.length_append, List.length_cons, List.length_nil, Int.natCast_add]
 omega
theorem res_sum : ∀ (l : List TyT), (∀ t ∈ l, ((typT t).length : Int) ≤ 310 * tcS t) → (sumT 2 (l.map typT) : Int) ≤ 1000 * sumS tcS l
 | [], _ => by simp [sumT, sumS]
 | t :: l, h => by
  have h1 := h t List.mem_cons_self
  have h2 := res_sum l fun y hy => h y (List.mem_cons_of_mem _ hy)
  have h3 := tc_pos t
  simp only [List.map_cons, sumT, sumS]
  omega
theorem fu_len {n : Nat} {f : FuT} {p : Int} (h : (fuS n f p).1 = true) : ((fuT f).length : Int) ≤ 1200 * fuC n f := by
 obtain ⟨_, h⟩ := andS_true (f := partS 0) h
 obtain ⟨h1, h⟩ := andS_true h
 obtain ⟨h2, h⟩ := andS_true h
 obtain ⟨_, h⟩ := andS_true h
 obtain ⟨h3, h4⟩ := andS_true h
 have hn := ident_len (show identS f.name = true from h1)
 have q1 := pa_sum _ (pa_all h2)
 have q2 := sumT_le (show 2 ≤ 304 by omega) (f.params.map paT)
 have q3 := com_len (f.params.map paT) false
 have q4 := res_sum f.results fun t ht => by
  obtain ⟨q, hq⟩ := row_mem f.results _ h3 t ht
  exact typ_len t _ _ hq
 have q5 := com_len (f.results.map typT) false
 have q6 := row_len (f := fun s => stS n s 0) (c := stC n) (g := fun s => (stT 1 s).length) f.body _ (fun s _ q hq => st_len n s 0 q 1 hq (by omega)) h4
 have p1 : 0 ≤ paC f.params := sum_pos (fun x => by have := tc_pos x.type; omega) _
 have p2 : 0 ≤ sumS tcS f.results := sum_pos (fun t => by have := tc_pos t; omega) _
 have p3 := sum_pos (stc_pos n) f.body
 unfold fuT fuC comT
 simp only [List.length_append, List.length_cons, List.length_nil, Int.natCast_add, sts_sum]
 omega
theorem sus_len : ∀ l : List SuT, (suTs l).length = (l.map fun s => (sutT s).length).sum
 | [] => rfl
 | s :: l => by unfold suTs; rw [List.length_append, sus_len l]; simp
theorem fus_len : ∀ l : List FuT, (fuTs l).length = (l.map fun s => (fuT s).length).sum
 | [] => rfl
 | s :: l => by unfold fuTs; rw [List.length_append, fus_len l]; simp
theorem pr_len {n : Nat} {p : PrT} {c : Int} (h : (prS n p c).1 = true) : ((prT' p).length : Int) ≤ 10 + 1200 * prC n p := by
 obtain ⟨h1, h2⟩ := andS_true (f := rowS suS p.structs) h
 have q1 := row_len (f := suS) (c := suC) (g := fun s => (sutT s).length) p.structs _ (fun s _ q hq => su_len hq) h1
 have q2 := row_len (f := fuS n) (c := fuC n) (g := fun s => (fuT s).length) p.funcs _ (fun s _ q hq => fu_len hq) h2
 unfold prT' prC
 simp only [List.length_append, List.length_cons, List.length_nil, Int.natCast_add, sus_len, fus_len]
 omega
end Go.Proofs.YtfaoamebphckbaaGreatDoor
namespace Go.Ab
open Go.ChangeShapes Go.WideShapes Go.ChangeAt Go.RowKit Go.Av
def wfFs (T : TypeId → List D → Prop) : List Field → List D → Prop
 | [], ds => ds = []
 | f :: fs, ds => ∃ a b, ds = a ++ b ∧ T f.type a ∧ wfFs T fs b
def wfT (P : Program) : Nat → TypeId → List D → Prop
 | 0, _, _ => False
 | n + 1, t, ds => match P.underlying t with
  | some .bool => ∃ b, ds = [.bool b]
  | some (.int k) => ∃ m, ds = [.int k m] ∧ (Lit.int k m).wf = true
  | some .string => ∃ s, ds = [.str s] ∧ s.length ≤ 9223372036854775807
  | some (.slice e) => ∃ rows, ds = [.sl rows] ∧ rows.length ≤ 9223372036854775807 ∧ ∀ r ∈ rows, wfT P n e r
  | some (.struct fs) => wfFs (wfT P n) fs.toList ds
  | _ => False
def offsOf (P : Program) : List Field → Nat → Option Nat
 | [], o => some o
 | f :: fs, o => if f.offset = o then offsOf P fs (o + P.cellsOf f.type) else none
def plainT (P : Program) (L : List TypeId) (t : TypeId) : Bool :=
 match P.underlying t with
 | some .bool => true
 | some (.int _) => true
 | some .string => true
 | some (.slice e) => L.contains e && decide (0 < P.cellsOf e)
 | some (.struct fs) => fs.toList.all (fun f => L.contains f.type) && offsOf P fs.toList 0 == some (P.cellsOf t)
 | _ => false
theorem list_of2 {α : Type} (Q : Nat → α → Prop) : ∀ len : Nat, (∀ i < len, ∃ a, Q i a) → ∃ l : List α, l.length = len ∧ ∀ i (hi : i < l.length), Q i l[i]
 | 0, _ => ⟨[], rfl, fun i hi => by cases hi⟩
 | n + 1, h => by
  obtain ⟨l, hl, hq⟩ := list_of2 Q n (fun i hi => h i (by omega))
  obtain ⟨a, ha⟩ := h n (by omega)
  refine ⟨l ++ [a], by simp [hl], fun i hi => ?_⟩
  by_cases hin : i < l.length
  ·rw [List.getElem_append_left hin]
   exact hq i hin
  ·have : i = n := by simp at hi; omega
   subst this
   have hla : (l ++ [a])[i]'hi = a := by
    rw [List.getElem_append_right (by omega)]
    simp
   rw [hla]
   exact ha
theorem cell_in2 {w : World} {a : Addr} {v : Value} (h : w.cell? a = some v) : a.block < w.heap.size ∧ a.spot = none := by
 unfold World.cell? at h
 cases hb : w.heap[a.block]? with
 | none => rw [hb] at h; cases h
 | some o =>
  refine ⟨(Array.getElem?_eq_some_iff.1 hb).1, ?_⟩
  rw [hb] at h
  cases o <;> simp at h
  obtain ⟨h1, _⟩ := h
  exact h1
section
variable {P : Program} {H : Type} {enc : TypeId × Value → H} {W : World} {sp : Nat → Bool} {held : Bool}
abbrev NewM (W : World) : Nat → Nat → Prop := fun g _ => W.heap.size ≤ g
def Opened (P : Program) (W : World) (n : Nat) (t : TypeId) (cs : List Value) (ds : List D) : Prop := wfT P n t ds ∧ ds.length = cs.length ∧ ∀ j (h : j < ds.length), DR (NewM W) W ds[j] (cs.getD j undef)
theorem open_fields (n : Nat) (cs : List Value) : ∀ (l : List Field) (o : Nat), offsOf P l o = some cs.length →
 (∀ f ∈ l, ∃ ds, Opened P W n f.type ((cs.drop f.offset).take (P.cellsOf f.type)) ds) → o ≤ cs.length ∧ ∃ ds, wfFs (wfT P n) l ds ∧ ds.length = cs.length - o ∧ ∀ j (h : j < ds.length), DR (NewM W) W ds[j] (cs.getD (o + j) undef)
 | [], o, h, _ => by
  have : o = cs.length := Option.some.inj h
  exact ⟨by omega, [], rfl, by simp; omega, fun j h => by simp at h⟩
 | f :: fs, o, h, hf => by
  unfold offsOf at h
  split at h
  case isFalse => cases h
  rename_i ho
  obtain ⟨a, a1, a2, a3⟩ := hf f List.mem_cons_self
  obtain ⟨b0, b, b1, b2, b3⟩ := open_fields n cs fs _ h fun g hg => hf g (List.mem_cons_of_mem _ hg)
  rw [ho] at a2 a3
  have ha : a.length = P.cellsOf f.type := by rw [a2, List.length_take, List.length_drop]; omega
  refine ⟨by omega, a ++ b, ⟨a, b, rfl, a1, b1⟩, by rw [List.length_append, b2]; omega, fun j hj => ?_⟩
  rcases Nat.lt_or_ge j a.length with hlt | hge
  ·rw [List.getElem_append_left hlt]
   have := a3 j hlt
   rw [List.getD_eq_getElem?_getD, List.getElem?_take, if_pos (by omega), List.getElem?_drop] at this
   rw [List.getD_eq_getElem?_getD]
   exact this
  ·rw [List.getElem_append_right hge]
   have := b3 (j - a.length) (by rw [List.length_append] at hj; omega)
   rw [show o + P.cellsOf f.type + (j - a.length) = o + j by omega] at this
   exact this
theorem open_D (L : List TypeId) (hL : L.all (plainT P L) = true) : ∀ (fuel : Nat) (t : TypeId) (cs : List Value) (y : DataW H × List MemPlace), L.contains t = true → DataW.trod enc P W 0 sp held fuel t cs = some y → ∃ ds, Opened P W fuel t cs ds := by
 intro fuel
 induction fuel with
 | zero => intro t cs y _ h; simp [DataW.trod] at h
 | succ n ih =>
  intro t cs y ht h
  have hpl := List.all_eq_true.1 hL t (List.contains_iff_mem.1 ht)
  unfold plainT at hpl
  split at hpl
  ·rename_i hu
   obtain ⟨b, rfl, _⟩ := DataW.trod_bool hu h
   refine ⟨[.bool b], ?_, rfl, fun j hj => ?_⟩
   ·simp only [wfT, hu]; exact ⟨b, rfl⟩
   ·have : j = 0 := by simp at hj; exact hj
    subst this; exact .bool b
  ·rename_i k hu
   obtain ⟨m, rfl, _, hw⟩ := DataW.trod_int hu h
   refine ⟨[.int k m], ?_, rfl, fun j hj => ?_⟩
   ·simp only [wfT, hu]; exact ⟨m, rfl, hw⟩
   ·have : j = 0 := by simp at hj; exact hj
    subst this; exact .int k m
  ·rename_i hu
   obtain ⟨s, rfl, _, hs⟩ := DataW.trod_string hu h
   have hsl : s.data.toList.length ≤ 9223372036854775807 := by
    have : s.data.toList.length = s.size := by rw [Array.length_toList]; rfl
    rw [this]
    exact hs
   refine ⟨[.str s.data.toList], ?_, rfl, fun j hj => ?_⟩
   ·simp only [wfT, hu]; exact ⟨_, rfl, hsl⟩
   ·have : j = 0 := by simp at hj; exact hj
    subst this
    have := DR.str (M := NewM W) (w := W) s.data.toList hsl
    exact this
  ·rename_i e hu
   simp only [Bool.and_eq_true, decide_eq_true_eq] at hpl
   obtain ⟨he, hpos⟩ := hpl
   rcases DataW.trod_slice hu h with ⟨rfl, _⟩ | ⟨a, len, cap, elems, rest, n', hn', rfl, _, _, hlc, hcm, hel, hq, _⟩
   ·refine ⟨[.sl []], ?_, rfl, fun j hj => ?_⟩
    ·simp only [wfT, hu]; exact ⟨[], rfl, by simp, by simp⟩
    ·have : j = 0 := by simp at hj; exact hj
     subst this
     exact .sl [] 1 none 0 (fun _ _ => undef) (by omega) (by simp) (by simp) (by omega) (fun h => absurd rfl h) (fun j h => by simp at h)
   ·obtain rfl : n = n' := by omega
    obtain ⟨rows, hrl, hrq⟩ := list_of2 (fun i (ds : List D) => ∃ ci, W.cells? 0 (a.add (i * P.cellsOf e)) (P.cellsOf e) = some ci ∧ Opened P W n e ci ds) len (fun i hi => by
     have hqi := hq i hi
     rw [List.getElem?_eq_getElem (by omega), Option.bind_eq_some_iff] at hqi
     obtain ⟨ci, hci, hti⟩ := hqi
     obtain ⟨ds, hds⟩ := ih e ci _ he hti
     exact ⟨ds, ci, hci, hds⟩)
    subst hrl
    have hci : ∀ i (hi : i < rows.length), (rows[i]).length = P.cellsOf e ∧ ∀ q (h : q < (rows[i]).length), ∃ v, W.cell? (a.add (i * P.cellsOf e + q)) = some v ∧ DR (NewM W) W (rows[i])[q] v := by
     intro i hi
     obtain ⟨ci, h1, h2, h3, h4⟩ := hrq i hi
     have h5 := World.cells?_some h1
     have hlen : ci.length = P.cellsOf e := h5.2.1
     refine ⟨by omega, fun q hq => ?_⟩
     have h6 := h5.2.2 q (by omega)
     rw [Addr.add_add] at h6
     refine ⟨ci[q]'(by omega), by rw [h6]; simp, ?_⟩
     have h7 := h4 q hq
     rw [List.getD_eq_getElem?_getD, List.getElem?_eq_getElem (by omega)] at h7
     exact h7
    refine ⟨[.sl rows], ?_, rfl, fun j hj => ?_⟩
    ·simp only [wfT, hu]
     refine ⟨rows, rfl, by have : maxLen = 9223372036854775807 := rfl; omega, fun r hr => ?_⟩
     obtain ⟨i, hi, rfl⟩ := List.mem_iff_getElem.1 hr
     obtain ⟨ci, _, h2, _⟩ := hrq i hi
     exact h2
    ·have : j = 0 := by simp at hj; exact hj
     subst this
     have haddr : rows ≠ [] → a.block < W.heap.size ∧ a.spot = none := by
      intro hne
      have h0 : 0 < rows.length := by
       rcases Nat.eq_zero_or_pos rows.length with e' | e'
       ·exact absurd (List.eq_nil_of_length_eq_zero e') hne
       ·exact e'
      obtain ⟨hl0, hc0⟩ := hci 0 h0
      obtain ⟨v, hv, _⟩ := hc0 0 (by omega)
      rw [show a.add (0 * P.cellsOf e + 0) = a by rw [Nat.zero_mul]; rfl] at hv
      exact cell_in2 hv
     have := DR.sl (M := NewM W) (w := W) rows (P.cellsOf e) (some a) cap (fun i q => (W.cell? (a.add (i * P.cellsOf e + q))).getD undef) hpos (fun r hr => by
      obtain ⟨i, hi, rfl⟩ := List.mem_iff_getElem.1 hr
      exact (hci i hi).1) hlc (by have : maxLen = 9223372036854775807 := rfl; omega) (fun hne => by
      obtain ⟨h1, h2⟩ := haddr hne
      obtain ⟨g, off, spot⟩ := a
      simp only at h1 h2
      subst h2
      refine ⟨g, off, rfl, fun j hj q hq => ⟨by show ¬ W.heap.size ≤ g; omega, ?_⟩⟩
      obtain ⟨v, hv, _⟩ := (hci j hj).2 q hq
      rw [hv]
      rw [Addr.add_plain, ← Nat.add_assoc] at hv
      exact hv) (fun j hj q hq => by
      obtain ⟨v, hv, hd⟩ := (hci j hj).2 q hq
      rw [hv]
      exact hd)
     exact this
  ·rename_i fs hu
   simp only [Bool.and_eq_true] at hpl
   obtain ⟨hfs, hoff⟩ := hpl
   obtain ⟨xs, n', hn', _, hl, hxl, hf⟩ := DataW.trod_struct hu h
   obtain rfl : n = n' := by omega
   have hoff' : offsOf P fs.toList 0 = some cs.length := by rw [hl]; exact eq_of_beq hoff
   obtain ⟨_, ds, h1, h2, h3⟩ := open_fields (W := W) n cs fs.toList 0 hoff' (fun f hfm => by
    obtain ⟨i, hi, rfl⟩ := List.mem_iff_getElem.1 hfm
    have hi' : i < fs.size := by simpa using hi
    have := hf i fs[i] (by simp [hi'])
    rw [List.getElem?_eq_getElem (by omega)] at this
    exact ih _ _ _ (List.all_eq_true.1 hfs _ hfm) this)
   refine ⟨ds, ?_, by omega, fun j hj => ?_⟩
   ·simp only [wfT, hu]; exact h1
   ·have := h3 j hj
    rwa [Nat.zero_add] at this
  ·cases hpl
end
def cx0 (W : World) (I : Inv) : Cx := ⟨W.heap.size, [], [], I, fun _ _ => False, fun _ _ h => h.elim⟩
theorem DR.first {W : World} {I : Inv} {x : D} {v : Value} (h : DR (NewM W) W x v) : DR (cx0 W I).M W x v := h.mono fun g k v _ hv => ⟨by
 rintro ((hm | hm) | ⟨t, i, off, ht, _⟩)
 ·exact hm
 ·simp [cx0] at hm
 ·simp [cx0] at ht, hv⟩
theorem Rep.first {W : World} {I : Inv} (h2 : I.top ≤ W.heap.size) (hI : ∀ w', Below W.heap.size W w' → I.holds w') : Rep (cx0 W I) W ⟨[], []⟩ :=
 ⟨⟨h2, Nat.le_refl _⟩, rfl, fun i b h => by simp [cx0] at h, fun i j b h => by simp [cx0] at h, rfl, fun t i h => by simp [cx0] at h, fun t t' i i' g off off' h => by simp [cx0] at h, hI⟩
theorem first_agg {P : Program} {W : World} {I : Inv} {n : Nat} {t : TypeId} {cs : Array Value} {ds : List D} (h : Opened P W n t cs.toList ds) : VR (cx0 W I) W (.agg (ds.map .d)) (.agg cs) := by
 obtain ⟨_, h2, h3⟩ := h
 have h2 : ds.length = cs.size := by simpa using h2
 have key : ∀ j, j < ds.length → ∃ h : j < ds.length, DR (cx0 W I).M W ds[j] (cs.getD j undef) := fun j hj => ⟨hj, by
  have := (h3 j hj).first (I := I)
  rw [List.getD_eq_getElem?_getD, Array.getElem?_toList] at this
  have e : cs.getD j undef = (cs[j]?).getD undef := by simp [Array.getD, show j < cs.size by omega]
  rw [e]
  exact this⟩
 refine .agg _ _ (by rw [List.length_map]; omega) (fun j hj => ?_) (fun j hj => ?_)
 ·rw [List.length_map] at hj
  obtain ⟨_, hd⟩ := key j hj
  rw [List.getElem_map]
  exact .d _ _ hd
 ·rw [List.length_map] at hj
  obtain ⟨_, hd⟩ := key j hj
  exact hd.one
theorem AFn.law {P : Program} {I : Inv} {f : FuncId} {args : List V} {b : Bool} (h : AFn P I f args ⟨[], []⟩ (fun v _ => v = .d (.bool b))) {W : World} {xs : Array Value} (h2 : I.top ≤ W.heap.size) (hI : ∀ w', Below W.heap.size W w' → I.holds w') (hs : xs.size = args.length) (hv : ∀ j (h : j < args.length), VR (cx0 W I) W args[j] (xs.getD j undef)) :
 Calls P f xs W fun e w' => e = .returned (.bool b) ∧ Below W.heap.size W w' := by
 refine (h.2 (cx0 W I) W xs hs hv (.first h2 hI) rfl).mono ?_
 rintro e w' ⟨v, x, S', c', rfl, rfl, _, hx, hvr⟩
 cases hvr with
 | d _ _ hd => cases hd with
  | bool _ => exact ⟨rfl, hx.below⟩
end Go.Ab
namespace Go.Proofs.YtfaoamebphckbaaGreatDoor
open Go.RowKit Go.Av Go.Ab
set_option maxRecDepth 100000
section
variable {n : Nat} {ds : List D}
theorem wf_str (h : wfT Tryz.prog n 9 ds) : ∃ s, ds = [.str s] ∧ s.length ≤ 9223372036854775807 := by
 cases n with
 | zero => exact h.elim
 | succ n =>
  unfold wfT at h
  rw [Tryz.underlying9] at h
  exact h
theorem wf_int {t : TypeId} {k : IntKind} (hu : Tryz.prog.underlying t = some (.int k)) (h : wfT Tryz.prog n t ds) : ∃ m, ds = [.int k m] ∧ (Lit.int k m).wf = true := by
 cases n with
 | zero => exact h.elim
 | succ n =>
  unfold wfT at h
  rw [hu] at h
  exact h
theorem wf_sl {t e : TypeId} (hu : Tryz.prog.underlying t = some (.slice e)) {α : Type} (f : α → List D) (ih : ∀ m < n, ∀ r, wfT Tryz.prog m e r → ∃ x, r = f x) (h : wfT Tryz.prog n t ds) : ∃ l : List α, ds = [.sl (l.map f)] ∧ l.length ≤ 9223372036854775807 := by
 cases n with
 | zero => exact h.elim
 | succ n =>
  unfold wfT at h
  rw [hu] at h
  obtain ⟨rows, rfl, hl, hr⟩ := h
  have : ∃ l : List α, rows = l.map f := by
   clear hl
   induction rows with
   | nil => exact ⟨[], rfl⟩
   | cons r rows ihr =>
    obtain ⟨x, hx⟩ := ih n (by omega) r (hr r List.mem_cons_self)
    obtain ⟨l, hl⟩ := ihr fun y hy => hr y (List.mem_cons_of_mem _ hy)
    exact ⟨x :: l, by rw [hx, hl]; rfl⟩
  obtain ⟨l, rfl⟩ := this
  exact ⟨l, rfl, by simpa using hl⟩
theorem wf_struct {t : TypeId} {fs : Array Field} (hu : Tryz.prog.underlying t = some (.struct fs)) (h : wfT Tryz.prog n t ds) : ∃ m, n = m + 1 ∧ wfFs (wfT Tryz.prog m) fs.toList ds := by
 cases n with
 | zero => exact h.elim
 | succ n =>
  unfold wfT at h
  rw [hu] at h
  exact ⟨n, rfl, h⟩
end
theorem wf_ss {n : Nat} {ds : List D} (h : wfT Tryz.prog n 43 ds) : ∃ l, ds = [.sl (ssD l)] := by
 obtain ⟨l, rfl, _⟩ := wf_sl Tryz.underlying43 (fun s : List UInt8 => [D.str s]) (fun m _ r hr => (wf_str hr).imp fun _ h => h.1) h
 exact ⟨l, rfl⟩
theorem wf_ty : ∀ (n : Nat) (ds : List D), wfT Tryz.prog n 42 ds → ∃ t, ds = tyD t := by
 intro n
 induction n using Nat.strongRecOn with
 | _ n ih =>
  intro ds h
  obtain ⟨m, rfl, h⟩ := wf_struct Tryz.underlying42 h
  obtain ⟨a, _, rfl, ha, b, _, rfl, hb, c, _, rfl, hc, rfl⟩ := h
  obtain ⟨k, rfl, _⟩ := wf_int Tryz.underlying3 ha
  obtain ⟨s, rfl, _⟩ := wf_str hb
  obtain ⟨l, rfl, _⟩ := wf_sl Tryz.underlying40 tyD (fun q hq r hr => ih q (by omega) r hr) hc
  exact ⟨.mk k s l, by rw [tyD_eq]; rfl⟩
theorem wf_tys {n : Nat} {ds : List D} (h : wfT Tryz.prog n 40 ds) : ∃ l : List TyT, ds = [.sl (l.map tyD)] := by
 obtain ⟨l, rfl, _⟩ := wf_sl Tryz.underlying40 tyD (fun q _ r hr => wf_ty q r hr) h
 exact ⟨l, rfl⟩
theorem wf_pas {n : Nat} {ds : List D} (h : wfT Tryz.prog n 57 ds) : ∃ l : List PaT, ds = [.sl (l.map paD)] := by
 obtain ⟨l, rfl, _⟩ := wf_sl Tryz.underlying57 paD (fun q _ r hr => by
  obtain ⟨q', rfl, hr⟩ := wf_struct Tryz.underlying61 hr
  obtain ⟨a, _, rfl, ha, b, _, rfl, hb, rfl⟩ := hr
  obtain ⟨s, rfl, _⟩ := wf_str ha
  obtain ⟨t, rfl⟩ := wf_ty _ _ hb
  exact ⟨⟨s, t⟩, by rw [tyD_eq]; rfl⟩) h
 exact ⟨l, rfl⟩
theorem wf_sus {n : Nat} {ds : List D} (h : wfT Tryz.prog n 22 ds) : ∃ l : List SuT, ds = [.sl (l.map suD)] := by
 obtain ⟨l, rfl, _⟩ := wf_sl Tryz.underlying22 suD (fun q _ r hr => by
  obtain ⟨q', rfl, hr⟩ := wf_struct Tryz.underlying59 hr
  obtain ⟨a, _, rfl, ha, b, _, rfl, hb, rfl⟩ := hr
  obtain ⟨s, rfl, _⟩ := wf_str ha
  obtain ⟨t, rfl⟩ := wf_pas hb
  exact ⟨⟨s, t⟩, rfl⟩) h
 exact ⟨l, rfl⟩
def treeL : List TypeId := [3, 39, 9, 43, 42, 40, 46, 44, 88, 62, 115, 86, 61, 57, 59, 22, 64, 23, 25]
theorem treeL_ok : treeL.all (plainT Tryz.prog treeL) = true := by kernel_rfl
end Go.Proofs.YtfaoamebphckbaaGreatDoor
namespace Go.Proofs.YtfaoamebphckbaaGreatDoor
open Go.RowKit Go.Av
set_option linter.unusedSimpArgs false
set_option linter.unusedVariables false
mutual
def numS : StT → Prop
 | .mk _ _ _ ls es b e cs => numEs ls ∧ numEs es ∧ numSs b ∧ numSs e ∧ numCs cs
def numSs : List StT → Prop
 | [] => True
 | x :: l => numS x ∧ numSs l
def numCs : List CaT → Prop
 | [] => True
 | .mk i b :: l => (0 ≤ i ∧ i ≤ 18446744073709551615) ∧ numSs b ∧ numCs l
end
def numPr (p : PrT) : Prop := ∀ f ∈ p.funcs, numSs f.body
theorem numSs_cons (x : StT) (l : List StT) : numSs (x :: l) = (numS x ∧ numSs l) := by rw [numSs]
theorem numCs_cons (i : Int) (b : List StT) (l : List CaT) : numCs (.mk i b :: l) = ((0 ≤ i ∧ i ≤ 18446744073709551615) ∧ numSs b ∧ numCs l) := by rw [numCs]
theorem numSs_mem : ∀ {l : List StT}, numSs l → ∀ x ∈ l, numS x
 | y :: l, h, x, hx => by
  rw [numSs_cons] at h
  rcases List.mem_cons.1 hx with e | hx
  ·rw [e]; exact h.1
  ·exact numSs_mem h.2 x hx
theorem numCs_mem : ∀ {l : List CaT}, numCs l → ∀ c ∈ l, (0 ≤ c.int ∧ c.int ≤ 18446744073709551615) ∧ numSs c.body
 | .mk i b :: l, h, c, hc => by
  rw [numCs_cons] at h
  rcases List.mem_cons.1 hc with e | hc
  ·rw [e]; exact ⟨h.1, h.2.1⟩
  ·exact numCs_mem h.2.2 c hc
theorem ok_exs40 {l : List ExT} {d p : Int} (h : (exs40 l d p).1 = true) (hn : numEs l) : ∀ x ∈ l, OkE d x := ok_exprs l d p (andS_true (f := fun p => exsS l d p) h).1 hn
theorem part_deep {d p : Int} (h : (partS d p).1 = true) : d ≤ 60 := by
 have h' : partOk d p = true := h
 unfold partOk at h'
 rw [Bool.and_eq_true, decide_eq_true_iff, decide_eq_true_iff] at h'
 exact h'.2
def oneI : List (List UInt8) → Bool
 | [x] => identS x
 | _ => false
def oneC : List ExT → Bool
 | [x] => decide (x.kind = 7)
 | _ => false
def oneH : List ExT → Bool
 | [x] => headS x
 | _ => false
theorem sized_eq (k : Int) (ns : List (List UInt8)) (ty : TyT) (ls es : List ExT) (b e : List StT) (cs : List CaT) : sizedS (.mk k ns ty ls es b e cs) = (if k = 1 then decide (es.length = 0) && oneI ns && decide (ls = []) && decide (b.length = 0) && decide (e.length = 0) && decide (cs.length = 0)
 else if k = 2 then decide (0 < ls.length) && (decide (es.length = ls.length) || oneC es) && ls.all placeS && (decide (ns = []) && zeroS ty) && decide (b.length = 0) && decide (e.length = 0) && decide (cs.length = 0)
 else if k = 3 then (decide (ns = []) && zeroS ty) && decide (ls = []) && oneH es && decide (cs.length = 0)
 else if k = 4 then (decide (ns = []) && zeroS ty) && decide (ls = []) && oneH es && decide (e.length = 0) && decide (cs.length = 0)
 else if k = 5 then (decide (ns = []) && zeroS ty) && decide (ls = []) && oneH es && decide (b.length = 0)
 else if k = 6 then (decide (ns = []) && zeroS ty) && decide (ls = []) && decide (0 < es.length) && decide (b.length = 0) && decide (e.length = 0) && decide (cs.length = 0)
 else false) := rfl
theorem ok_stmt : ∀ (n : Nat) (x : StT) (d p : Int), (stS n x d p).1 = true → numS x → OkS d x
 | 0, _, _, _, h, _ => by cases h
 | n + 1, .mk k ns ty ls es b e cs, d, p, h, hn => by
  obtain ⟨hp, h⟩ := andS_true (f := partS d) h
  obtain ⟨hz, h⟩ := andS_true h
  obtain ⟨ht, h⟩ := andS_true h
  obtain ⟨hc, h⟩ := andS_true h
  obtain ⟨hl, h⟩ := andS_true h
  obtain ⟨hx, h⟩ := andS_true h
  obtain ⟨hb, he⟩ := andS_true h
  have hd := part_deep hp
  unfold numS at hn
  obtain ⟨n1, n2, n3, n4, n5⟩ := hn
  have gl := ok_exs40 hl n1
  have gx := ok_exs40 hx n2
  have gb : ∀ y ∈ b, OkS (d + 1) y := fun y hy => by
   obtain ⟨q, hq⟩ := rowS_mem (f := fun x => stS n x (d + 1)) _ _ hb y hy
   exact ok_stmt n y _ q hq (numSs_mem n3 y hy)
  have ge : ∀ y ∈ e, OkS (d + 1) y := fun y hy => by
   obtain ⟨q, hq⟩ := rowS_mem (f := fun x => stS n x (d + 1)) _ _ he y hy
   exact ok_stmt n y _ q hq (numSs_mem n4 y hy)
  have gc : ∀ c ∈ cs, ∀ y ∈ c.body, OkS (d + 2) y := fun c hcm y hy => by
   obtain ⟨q, hq⟩ := casS_mem _ _ _ hc c hcm y hy
   exact ok_stmt n y _ q hq (numSs_mem (numCs_mem n5 c hcm).2 y hy)
  have hi : ∀ c ∈ cs, 0 ≤ c.int ∧ c.int ≤ 18446744073709551615 := fun c hcm => (numCs_mem n5 c hcm).1
  have hz0 : (sizedS (.mk k ns ty ls es b e cs) && decide (cs.length ≤ 40)) = true := hz
  rw [Bool.and_eq_true] at hz0
  have hz' := hz0.1
  rw [sized_eq] at hz'
  by_cases k1 : k = 1
  ·subst k1
   rw [if_pos rfl] at hz'
   simp only [Bool.and_eq_true, decide_eq_true_eq] at hz'
   obtain ⟨⟨⟨⟨⟨h1, h2⟩, h3⟩, h4⟩, h5⟩, h6⟩ := hz'
   obtain rfl := List.eq_nil_of_length_eq_zero h1
   obtain rfl := h3
   obtain rfl := List.eq_nil_of_length_eq_zero h4
   obtain rfl := List.eq_nil_of_length_eq_zero h5
   obtain rfl := List.eq_nil_of_length_eq_zero h6
   have ht' : OkT ty := by
    rw [if_pos (show (StT.mk 1 ns ty [] [] [] [] []).kind = 1 from rfl)] at ht
    exact ok_type ty _ _ ht
   match ns, h2 with
   | [m], h2 => exact .var d m ty hd h2 ht'
   | [], h2 => cases h2
   | _ :: _ :: _, h2 => cases h2
  rw [if_neg k1] at hz'
  by_cases k2 : k = 2
  ·subst k2
   rw [if_pos rfl] at hz'
   simp only [Bool.and_eq_true, decide_eq_true_eq, List.all_eq_true] at hz'
   obtain ⟨⟨⟨⟨⟨⟨h1, h2⟩, h3⟩, h4, h5⟩, h6⟩, h7⟩, h8⟩ := hz'
   obtain rfl := h4
   obtain rfl := zero_noT h5
   obtain rfl := List.eq_nil_of_length_eq_zero h6
   obtain rfl := List.eq_nil_of_length_eq_zero h7
   obtain rfl := List.eq_nil_of_length_eq_zero h8
   have hls : ls ≠ [] := by rintro rfl; exact absurd h1 (by decide)
   have hes : es ≠ [] := by
    rintro rfl
    rw [Bool.or_eq_true, decide_eq_true_eq] at h2
    rcases h2 with h2 | h2
    ·have h2 : 0 = ls.length := h2
     omega
    ·cases h2
   exact .set d ls es hd hls hes h3 gl gx
  rw [if_neg k2] at hz'
  by_cases k3 : k = 3
  ·subst k3
   rw [if_pos rfl] at hz'
   simp only [Bool.and_eq_true, decide_eq_true_eq] at hz'
   obtain ⟨⟨⟨⟨h1, h2⟩, h3⟩, h4⟩, h5⟩ := hz'
   obtain rfl := h1
   obtain rfl := zero_noT h2
   obtain rfl := h3
   obtain rfl := List.eq_nil_of_length_eq_zero h5
   match es, h4, gx with
   | [x], h4, gx => exact .iff d x b e hd (gx x List.mem_cons_self) h4 gb ge
   | [], h4, _ => cases h4
   | _ :: _ :: _, h4, _ => cases h4
  rw [if_neg k3] at hz'
  by_cases k4 : k = 4
  ·subst k4
   rw [if_pos rfl] at hz'
   simp only [Bool.and_eq_true, decide_eq_true_eq] at hz'
   obtain ⟨⟨⟨⟨⟨h1, h2⟩, h3⟩, h4⟩, h6⟩, h5⟩ := hz'
   obtain rfl := h1
   obtain rfl := zero_noT h2
   obtain rfl := h3
   obtain rfl := List.eq_nil_of_length_eq_zero h5
   obtain rfl := List.eq_nil_of_length_eq_zero h6
   match es, h4, gx with
   | [x], h4, gx => exact .fro d x b hd (gx x List.mem_cons_self) h4 gb
   | [], h4, _ => cases h4
   | _ :: _ :: _, h4, _ => cases h4
  rw [if_neg k4] at hz'
  by_cases k5 : k = 5
  ·subst k5
   rw [if_pos rfl] at hz'
   simp only [Bool.and_eq_true, decide_eq_true_eq] at hz'
   obtain ⟨⟨⟨⟨h1, h2⟩, h3⟩, h4⟩, h5⟩ := hz'
   obtain rfl := h1
   obtain rfl := zero_noT h2
   obtain rfl := h3
   obtain rfl := List.eq_nil_of_length_eq_zero h5
   match es, h4, gx with
   | [x], h4, gx => exact .swi d x e cs hd (gx x List.mem_cons_self) h4 ge hi gc
   | [], h4, _ => cases h4
   | _ :: _ :: _, h4, _ => cases h4
  rw [if_neg k5] at hz'
  by_cases k6 : k = 6
  ·subst k6
   rw [if_pos rfl] at hz'
   simp only [Bool.and_eq_true, decide_eq_true_eq] at hz'
   obtain ⟨⟨⟨⟨⟨⟨h1, h2⟩, h3⟩, h4⟩, h5⟩, h6⟩, h7⟩ := hz'
   obtain rfl := h1
   obtain rfl := zero_noT h2
   obtain rfl := h3
   obtain rfl := List.eq_nil_of_length_eq_zero h5
   obtain rfl := List.eq_nil_of_length_eq_zero h6
   obtain rfl := List.eq_nil_of_length_eq_zero h7
   exact .ret d es hd (by rintro rfl; exact absurd h4 (by decide)) gx
  rw [if_neg k6] at hz'
  cases hz'
theorem ok_pas {most : Nat} {l : List PaT} {p : Int} (h : (paS most l p).1 = true) : ∀ x ∈ l, OkPa x := by
 obtain ⟨h1, h2⟩ := andS_true (f := rowS (fun x : PaT => andS (partS 0) (fun p => tyS identS x.type 0 p)) l) h
 have h2 : (decide (l.length ≤ most) && diffS l.length (l.map PaT.name)) = true := h2
 rw [Bool.and_eq_true] at h2
 have hn := names_ident (l := l.map PaT.name) (by rw [List.length_map]; exact h2.2)
 intro x hx
 obtain ⟨q, hq⟩ := rowS_mem (f := fun x : PaT => andS (partS 0) (fun p => tyS identS x.type 0 p)) _ _ h1 x hx
 obtain ⟨_, hq⟩ := andS_true (f := partS 0) hq
 exact ⟨hn _ (List.mem_map_of_mem hx), ok_type x.type 0 _ hq⟩
theorem ok_prog {n : Nat} {x : PrT} {p : Int} (h : (prS n x p).1 = true) (hn : numPr x) : OkPr x := by
 obtain ⟨h1, h2⟩ := andS_true (f := rowS suS x.structs) h
 refine ⟨fun s hs => ?_, fun f hf => ?_⟩
 ·obtain ⟨q, hq⟩ := rowS_mem (f := suS) _ _ h1 s hs
  obtain ⟨_, hq⟩ := andS_true (f := partS 0) hq
  obtain ⟨h3, hq⟩ := andS_true (f := allowS (identS s.name)) hq
  exact ⟨h3, ok_pas hq⟩
 ·obtain ⟨q, hq⟩ := rowS_mem (f := fuS n) _ _ h2 f hf
  obtain ⟨_, hq⟩ := andS_true (f := partS 0) hq
  obtain ⟨h3, hq⟩ := andS_true (f := allowS (identS f.name)) hq
  obtain ⟨h4, hq⟩ := andS_true (f := paS 20 f.params) hq
  obtain ⟨h5, hq⟩ := andS_true hq
  obtain ⟨h6, h7⟩ := andS_true hq
  have h5 : (decide (1 ≤ f.results.length) && decide (f.results.length ≤ 20)) = true := h5
  rw [Bool.and_eq_true, decide_eq_true_eq, decide_eq_true_eq] at h5
  refine ⟨h3, ok_pas h4, ?_, fun t ht => ?_, fun s hs => ?_⟩
  ·intro e
   rw [e] at h5
   exact absurd h5.1 (by decide)
  ·obtain ⟨q, hq⟩ := rowS_mem (f := fun t p => tyS identS t 0 p) _ _ h6 t ht
   exact ok_type t 0 _ hq
  ·obtain ⟨q, hq⟩ := rowS_mem (f := fun s => stS n s 0) _ _ h7 s hs
   exact ok_stmt n s 0 q hq (numSs_mem (hn f hf) s hs)
def inU (i : Int) : Prop := 0 ≤ i ∧ i ≤ 18446744073709551615
theorem inU0 : inU 0 := ⟨by decide, by decide⟩
def WB (s : Ps) : Prop := ∀ w ∈ s.ws, inU (w.int : Int)
theorem WB.w {s : Ps} (h : WB s) : inU (s.w.int : Int) := by
 unfold Ps.w
 cases hs : s.ws with
 | nil => exact inU0
 | cons w l => exact h w (by rw [hs]; exact List.mem_cons_self)
theorem numEs_all : ∀ l : List ExT, numEs l ↔ ∀ x ∈ l, numE x
 | [] => by simp [numEs]
 | x :: l => by
  unfold numEs
  rw [numEs_all l]
  simp
theorem numE_mk (k : Int) (t : List UInt8) (i : Int) (ty : TyT) (ns : List (List UInt8)) (ks : List ExT) : numE (.mk k t i ty ns ks) = (inU i ∧ ∀ x ∈ ks, numE x) := by
 conv => lhs; unfold numE
 rw [numEs_all]
 rfl
def NuE (E : EP) : Prop := ∀ s, WB s → numE (E s).1
theorem NuE.at {E : EP} (h : NuE E) {s s1 : Ps} {x : ExT} (hs : WB s) (e : E s = (x, s1)) : numE x := by
 have := h s hs
 rw [e] at this
 exact this
end Go.Proofs.YtfaoamebphckbaaGreatDoor
namespace Go.Proofs.YtfaoamebphckbaaGreatDoor
open Go.RowKit Go.Av Go.Ab
set_option maxRecDepth 100000
set_option linter.unusedVariables false
theorem lit_u64 {m : Int} (h : (Lit.int .u64 m).wf = true) : inU m := by
 have h1 : IntKind.u64.min = 0 ∧ IntKind.u64.max = 18446744073709551615 := by decide
 simp only [Lit.wf, h1, Bool.and_eq_true, decide_eq_true_eq] at h
 exact h
theorem num_pos : ∀ x : ExT, numE x → posE x
 | .mk k t i ty ns ks => by
  intro h
  rw [numE_mk] at h
  rw [posE_mk]
  exact ⟨fun _ => h.1.1, fun x hx => num_pos x (h.2 x hx)⟩
theorem numSs_all (l : List StT) (h : ∀ x ∈ l, numS x) : numSs l := by
 induction l with
 | nil => rw [numSs]; trivial
 | cons x l ih => rw [numSs_cons]; exact ⟨h x List.mem_cons_self, ih fun y hy => h y (List.mem_cons_of_mem _ hy)⟩
theorem numCs_all (l : List CaT) (h : ∀ c ∈ l, inU c.int ∧ numSs c.body) : numCs l := by
 induction l with
 | nil => rw [numCs]; trivial
 | cons c l ih =>
  obtain ⟨i, b⟩ := c
  rw [numCs_cons]
  have := h _ List.mem_cons_self
  exact ⟨this.1, this.2, ih fun y hy => h y (List.mem_cons_of_mem _ hy)⟩
theorem num_poSt : ∀ (n : Nat) (s : StT), numS s → posSt n s
 | 0, _, _ => trivial
 | n + 1, .mk k ns ty ls es b e cs, h => by
  rw [numS] at h
  obtain ⟨h1, h2, h3, h4, h5⟩ := h
  exact ⟨fun x hx => num_pos x ((numEs_all _).1 h1 x hx), fun x hx => num_pos x ((numEs_all _).1 h2 x hx), fun x hx => num_poSt n x (numSs_mem h3 x hx), fun x hx => num_poSt n x (numSs_mem h4 x hx), fun c hc x hx => num_poSt n x (numSs_mem (numCs_mem h5 c hc).2 x hx)⟩
theorem num_poPr {p : PrT} (h : numPr p) : ∀ f ∈ p.funcs, ∀ x ∈ f.body, PoSt x := fun f hf x hx n => num_poSt n x (numSs_mem (h f hf) x hx)
theorem wfn_ex : ∀ (n : Nat) (ds : List D), wfT Tryz.prog n 46 ds → ∃ x : {x : ExT // numE x}, ds = exD x.1 := by
 intro n
 induction n using Nat.strongRecOn with
 | _ n ih =>
  intro ds h
  obtain ⟨m, rfl, h⟩ := wf_struct Tryz.underlying46 h
  obtain ⟨a, _, rfl, ha, b, _, rfl, hb, c, _, rfl, hc, d, _, rfl, hd, e, _, rfl, he, f, _, rfl, hf, rfl⟩ := h
  obtain ⟨k, rfl, _⟩ := wf_int Tryz.underlying3 ha
  obtain ⟨s, rfl, _⟩ := wf_str hb
  obtain ⟨i, rfl, hi⟩ := wf_int Tryz.underlying39 hc
  obtain ⟨t, rfl⟩ := wf_ty _ _ hd
  obtain ⟨ns, rfl⟩ := wf_ss he
  obtain ⟨l, rfl, _⟩ := wf_sl Tryz.underlying44 (fun x : {x : ExT // numE x} => exD x.1) (fun q hq r hr => ih q (by omega) r hr) hf
  refine ⟨⟨.mk k s i t ns (l.map (·.1)), ?_⟩, by rw [exD_eq, tyD_eq]; simp [ExT.kind, ExT.text, ExT.int, ExT.type, ExT.names, ExT.kids] <;> rfl⟩
  rw [numE_mk]
  refine ⟨lit_u64 hi, fun x hx => ?_⟩
  obtain ⟨y, _, rfl⟩ := List.mem_map.1 hx
  exact y.2
theorem wfn_exs {n : Nat} {ds : List D} (h : wfT Tryz.prog n 44 ds) : ∃ l : List ExT, numEs l ∧ ds = [.sl (l.map exD)] := by
 obtain ⟨l, rfl, _⟩ := wf_sl Tryz.underlying44 (fun x : {x : ExT // numE x} => exD x.1) (fun q _ r hr => wfn_ex q r hr) h
 refine ⟨l.map (·.1), ?_, by simp⟩
 rw [numEs_all]
 intro x hx
 obtain ⟨y, _, rfl⟩ := List.mem_map.1 hx
 exact y.2
theorem sub_sts (l : List {x : StT // numS x}) : numSs (l.map (·.1)) := numSs_all _ fun x hx => by
 obtain ⟨y, _, rfl⟩ := List.mem_map.1 hx
 exact y.2
theorem wfn_st : ∀ (n : Nat) (ds : List D), wfT Tryz.prog n 88 ds → ∃ x : {x : StT // numS x}, ds = stD x.1 := by
 intro n
 induction n using Nat.strongRecOn with
 | _ n ih =>
  intro ds h
  obtain ⟨m, rfl, h⟩ := wf_struct Tryz.underlying88 h
  obtain ⟨a, _, rfl, ha, b, _, rfl, hb, c, _, rfl, hc, d, _, rfl, hd, e, _, rfl, he, f, _, rfl, hf, g, _, rfl, hg, i, _, rfl, hi, rfl⟩ := h
  obtain ⟨k, rfl, _⟩ := wf_int Tryz.underlying3 ha
  obtain ⟨ns, rfl⟩ := wf_ss hb
  obtain ⟨t, rfl⟩ := wf_ty _ _ hc
  obtain ⟨ls, nl, rfl⟩ := wfn_exs hd
  obtain ⟨es, ne, rfl⟩ := wfn_exs he
  obtain ⟨bo, rfl, _⟩ := wf_sl Tryz.underlying62 (fun x : {x : StT // numS x} => stD x.1) (fun q hq r hr => ih q (by omega) r hr) hf
  obtain ⟨el, rfl, _⟩ := wf_sl Tryz.underlying62 (fun x : {x : StT // numS x} => stD x.1) (fun q hq r hr => ih q (by omega) r hr) hg
  obtain ⟨cs, rfl, _⟩ := wf_sl Tryz.underlying86 (fun c : {c : CaT // inU c.int ∧ numSs c.body} => caD c.1) (fun q hq r hr => by
   obtain ⟨q', rfl, hr⟩ := wf_struct Tryz.underlying115 hr
   obtain ⟨a, _, rfl, ha, b, _, rfl, hb, rfl⟩ := hr
   obtain ⟨k, rfl, hk⟩ := wf_int Tryz.underlying39 ha
   obtain ⟨l, rfl, _⟩ := wf_sl Tryz.underlying62 (fun x : {x : StT // numS x} => stD x.1) (fun q2 hq2 r hr => ih q2 (by omega) r hr) hb
   have hl := sub_sts l
   exact ⟨⟨.mk k (l.map fun y : {x : StT // numS x} => y.1), lit_u64 hk, hl⟩, by rw [caD_eq]; simp [CaT.int, CaT.body]⟩) hi
  refine ⟨⟨.mk k ns t ls es (bo.map (·.1)) (el.map (·.1)) (cs.map (·.1)), ?_⟩, by rw [stD_eq, tyD_eq]; simp [StT.kind, StT.names, StT.type, StT.lefts, StT.exprs, StT.body, StT.els, StT.cases] <;> rfl⟩
  rw [numS]
  refine ⟨nl, ne, sub_sts bo, sub_sts el, numCs_all _ fun c hc => ?_⟩
  obtain ⟨y, _, rfl⟩ := List.mem_map.1 hc
  exact y.2
theorem wfn_sts {n : Nat} {ds : List D} (h : wfT Tryz.prog n 62 ds) : ∃ l : List StT, numSs l ∧ ds = [.sl (l.map stD)] := by
 obtain ⟨l, rfl, _⟩ := wf_sl Tryz.underlying62 (fun x : {x : StT // numS x} => stD x.1) (fun q _ r hr => wfn_st q r hr) h
 exact ⟨l.map (·.1), sub_sts l, by simp⟩
theorem wfn_pr {n : Nat} {ds : List D} (h : wfT Tryz.prog n 25 ds) : ∃ p : PrT, numPr p ∧ ds = [.sl (p.structs.map suD), .sl (p.funcs.map fuD)] := by
 obtain ⟨q', rfl, h⟩ := wf_struct Tryz.underlying25 h
 obtain ⟨a, _, rfl, ha, b, _, rfl, hb, rfl⟩ := h
 obtain ⟨s, rfl⟩ := wf_sus ha
 obtain ⟨l, rfl, _⟩ := wf_sl Tryz.underlying23 (fun f : {f : FuT // numSs f.body} => fuD f.1) (fun q _ r hr => by
  obtain ⟨q', rfl, hr⟩ := wf_struct Tryz.underlying64 hr
  obtain ⟨a, _, rfl, ha, b, _, rfl, hb, c, _, rfl, hc, d, _, rfl, hd, rfl⟩ := hr
  obtain ⟨s, rfl, _⟩ := wf_str ha
  obtain ⟨ps, rfl⟩ := wf_pas hb
  obtain ⟨rs, rfl⟩ := wf_tys hc
  obtain ⟨bo, nb, rfl⟩ := wfn_sts hd
  exact ⟨⟨⟨s, ps, rs, bo⟩, nb⟩, rfl⟩) hb
 refine ⟨⟨s, l.map (·.1)⟩, fun f hf => ?_, by simp⟩
 obtain ⟨y, _, rfl⟩ := List.mem_map.1 hf
 exact y.2
set_option linter.unusedSimpArgs false
set_option linter.defProp false
def c3 := by
 have c := KK_of Tryz.f3 (by conv => lhs; cbv)
 dsimp only [KK, KxP, doO, opO, List.map_cons, List.map_nil, List.toList_toArray] at c
 exact c
theorem b3 : FnIs Tryz.prog 3 Tryz.f3 32 := ⟨Tryz.func3, by kernel_rfl⟩
theorem rg_same (p : PrT) (h : ∀ f ∈ p.funcs, ∀ x ∈ f.body, PoSt x) : rgP p = rgR p := pr_agr (SizeOf.sizeOf p.funcs) p fun f hf x hx => h f hf x hx _
set_option maxHeartbeats 4000000 in
theorem progs_ab (p : PrT) (hn : numPr p) : AFn Tryz.prog TabI 3 [prV p] ⟨[], []⟩ (fun v _ => v = .d (.bool true)) := by
 have hbs : ∀ s, fromBytes (byD s) = some s := fun s => fromBytes_map s
 have hgreat := great_ab p
 have hok : rgP p = true → OkPr p := fun h => ok_prog h hn
 have hlen : rgP p = true → (prT' p).length ≤ mostW := fun h => by
  have h1 := pr_len h
  rw [← prN_eq _ _ _ h] at h1
  have h2 := right_count _ _ h
  unfold mostW
  omega
 have h1 := gprog_ab hok hlen
 have h2 := rprog_ab (p := p) (by rw [← rg_same p (num_poPr hn)]; exact hok) (by rw [← rg_same p (num_poPr hn)]; exact hlen)
 rw [← rg_same p (num_poPr hn)] at h2
 clear hok hlen
 generalize (if rgP p = true then (outT (prT' p)).1 else []) = s at h1 h2
 generalize (if rgP p = true then (outT (prT' p)).2 else 2) = e at h1 h2
 unfold prV at hgreat h1 h2 ⊢
 cases hg : decide (2500 < prW p 2500)
 ·rw [hg] at hgreat
  refine b3.go 30 rfl fun hsm => ?_
  simp only [smw] at hsm
  simp only [W, seval, c3]
  refine callS_fn (hgreat _) ?_
  rintro _ _ ⟨rfl, rfl⟩
  refine ARun.go 60 ?_
  simp only [W, seval, c3]
  refine callS_fn (h1 _) ?_
  rintro _ _ ⟨rfl, rfl⟩
  refine ARun.go 60 ?_
  simp only [W, seval, c3]
  refine callS_fn (h2 _) ?_
  rintro _ _ ⟨rfl, rfl⟩
  refine ARun.go 60 ?_
  simp only [W, seval, c3, hbs, decide_true]
  refine callS_fn (works26_ab _) ?_
  rintro _ _ ⟨rfl, rfl⟩
  refine ARun.go 60 ?_
  simp only [W, seval, c3]
  refine ARun.ret Tryz.func3 rfl (Left.empty ?_)
  exact rfl
 ·rw [hg] at hgreat
  refine b3.go 30 rfl fun hsm => ?_
  simp only [smw] at hsm
  simp only [W, seval, c3]
  refine callS_fn (hgreat _) ?_
  rintro _ _ ⟨rfl, rfl⟩
  refine ARun.go 60 ?_
  simp only [W, seval, c3]
  refine callS_fn (works26_ab _) ?_
  rintro _ _ ⟨rfl, rfl⟩
  refine ARun.go 60 ?_
  simp only [W, seval, c3]
  refine ARun.ret Tryz.func3 rfl (Left.empty ?_)
  exact rfl
end Go.Proofs.YtfaoamebphckbaaGreatDoor
namespace Go.Proofs.YtfaoamebphckbaaGreatDoor
open Go.ChangeShapes Go.WideShapes Go.ChangeAt Go.RowKit Go.Av
theorem laidOut : laidOutB Tryz.prog = true := by kernel_rfl
theorem kept_arg {H : Type} {enc : TypeId × Value → H} {t : TypeId} {W W' : World} {v : Value} {d : DataW H} {ps : List MemPlace} (hr : Tryz.prog.readableRec t = true) (hrow : t < Tryz.prog.types.size)
 (h : DataW.Trod enc Tryz.prog W 0 (fun _ => true) true t v d ps) (hb : Below W.heap.size W W') (hlt : ∀ x ∈ ps, x.block < W.heap.size) : DataW.Trod enc Tryz.prog W' 0 (fun b => decide (b < W.heap.size)) true t v d ps :=
 Below.trod laidOut hr hrow h hb hlt
end Go.Proofs.YtfaoamebphckbaaGreatDoor
namespace Go.Av
def textData {H : Type} (zs : List (List UInt8)) : DataW H := .agg (zs.map fun z => .lit (.string z))
theorem cells_of_texts {H : Type} {enc : TypeId × Value → H} {P : Program} {w : World} {base : Nat} {sp : Nat → Bool} {held : Bool} {fuel : Nat} {t e : TypeId} {n : Nat} {cs : List Value} {zs : List (List UInt8)} {p : List MemPlace}
 (ht : P.underlying t = some (.array n e)) (he : P.underlying e = some .string) (hce : P.cellsOf e = 1) (hct : P.cellsOf t = n)
 (h : DataW.trod enc P w base sp held fuel t cs = some (textData zs, p)) : cs = zs.map fun z => Value.string ⟨z.toArray⟩ := by
 cases fuel with
 | zero => simp [DataW.trod] at h
 | succ fuel =>
  simp only [DataW.trod, ht, hce, hct, Nat.mul_one] at h
  split at h
  ·rename_i hl
   obtain ⟨xs, hm, hx⟩ := Option.map_eq_some_iff.1 h
   have hxs : xs.map (·.1) = zs.map fun z => (DataW.lit (.string z) : DataW H) := by
    have := congrArg Prod.fst hx
    simpa [textData] using this
   have hxl : xs.length = n := by simpa using Lib.mapM_length hm
   have hzl : zs.length = n := by
    have := congrArg List.length hxs
    simp at this
    omega
   apply List.ext_getElem?
   intro i
   by_cases hi : i < n
   ·obtain ⟨b, hb, hf⟩ := Lib.mapM_at hm i i (by simp [hi])
    obtain ⟨z, hc, rfl, _⟩ := DataW.trod_string he hf
    have h1 : cs[i]? = some (.string z) := by
     have := congrArg (·[0]?) hc
     simpa [List.getElem?_take, List.getElem?_drop] using this
    have h2 : (xs.map (·.1))[i]? = some (DataW.lit (.string z.data.toList) : DataW H) := by simp [hb]
    rw [hxs] at h2
    simp only [List.getElem?_map, Option.map_eq_some_iff, DataW.lit.injEq, Lit.string.injEq] at h2
    obtain ⟨z', hz', e⟩ := h2
    have ez : z = ⟨z'.toArray⟩ := by
     apply ByteArray.ext
     rw [e]
    simp [h1, hz', ez]
   ·rw [List.getElem?_eq_none (by omega), List.getElem?_eq_none (by simp; omega)]
  ·cases h
theorem texts_of_vars {P : Program} {W : World} {name : String} {zs : List (List UInt8)} {rest : List (String × DataW Unit)} {ps : List MemPlace} {g : Nat} {t e : TypeId} {n : Nat}
 (hg : P.globalNamed name = some g) (hty : (P.globals[g]?).map (·.type) = some t) (ht : P.underlying t = some (.array n e)) (he : P.underlying e = some .string) (hce : P.cellsOf e = 1) (hct : P.cellsOf t = n)
 (h : DataW.LaidVars P W ((name, textData zs) :: rest) ps) : (∃ u fr, W.heap[g]? = some (.cells (zs.map fun z => Value.string ⟨z.toArray⟩).toArray u fr)) ∧ ∃ q, DataW.LaidVars P W rest q := by
 obtain ⟨g', t', cs, fuel, p, q, hg', ht', hvar, hd, hr, _⟩ := h
 obtain rfl := Option.some.inj (hg.symm.trans hg')
 obtain rfl := Option.some.inj (hty.symm.trans ht')
 refine ⟨?_, q, hr⟩
 have hcs := cells_of_texts ht he hce hct hd
 have ecs : cs = (zs.map fun z => Value.string ⟨z.toArray⟩).toArray := by rw [← hcs]
 unfold World.var? at hvar
 rw [hg, Option.bind_some] at hvar
 split at hvar
 ·rename_i c u fr hh
  obtain rfl := Option.some.inj hvar
  exact ⟨u, fr, by rw [hh, ecs]⟩
 ·cases hvar
theorem rest_of_vars {P : Program} {W : World} {x : String × DataW Unit} {rest : List (String × DataW Unit)} {ps : List MemPlace} (h : DataW.LaidVars P W (x :: rest) ps) : ∃ q, DataW.LaidVars P W rest q := by
 obtain ⟨_, _, _, _, _, q, _, _, _, _, hr, _⟩ := h
 exact ⟨q, hr⟩
theorem nums_of_vars {P : Program} {W : World} {name : String} {k : IntKind} {zs : List Int} {rest : List (String × DataW Unit)} {ps : List MemPlace} {g : Nat} {t e : TypeId} {n : Nat}
 (hg : P.globalNamed name = some g) (hty : (P.globals[g]?).map (·.type) = some t) (ht : P.underlying t = some (.array n e)) (he : P.underlying e = some (.int k)) (hce : P.cellsOf e = 1) (hct : P.cellsOf t = n)
 (h : DataW.LaidVars P W ((name, Lib.tabData k zs) :: rest) ps) : (∃ u fr, W.heap[g]? = some (.cells (zs.map fun z => Value.int k z).toArray u fr)) ∧ ∃ q, DataW.LaidVars P W rest q := by
 obtain ⟨g', t', cs, fuel, p, q, hg', ht', hvar, hd, hr, _⟩ := h
 obtain rfl := Option.some.inj (hg.symm.trans hg')
 obtain rfl := Option.some.inj (hty.symm.trans ht')
 refine ⟨?_, q, hr⟩
 have hcs := Lib.cells_of_tab ht he hce hct hd
 have ecs : cs = (zs.map fun z => Value.int k z).toArray := by rw [← hcs]
 unfold World.var? at hvar
 rw [hg, Option.bind_some] at hvar
 split at hvar
 ·rename_i c u fr hh
  obtain rfl := Option.some.inj hvar
  exact ⟨u, fr, by rw [hh, ecs]⟩
 ·cases hvar
end Go.Av
namespace Go.Proofs.YtfaoamebphckbaaGreatDoor.goprintPrograms
open Go.ChangeShapes Go.WideShapes Go.ChangeAt Go.RowKit Go.Av Go.Ab
open Go.ChangeMaps (open_string shut_string)
set_option linter.unusedVariables false
theorem own : ownKnob Tryz.prog.godebug = none := by kernel_rfl
theorem tab {W : World} (h : laidMetH Tryz.prog Rows.goprintProgramsRow.laid W) : Tabs W := by
 have h' : laidMet Tryz.prog Rows.goprintProgramsRow.laid W := h
 obtain ⟨ps, hv, _⟩ := h'
 obtain ⟨_, hv⟩ := rest_of_vars hv
 obtain ⟨_, hv⟩ := rest_of_vars hv
 obtain ⟨⟨u0, fr0, h0⟩, _, hv⟩ := nums_of_vars (k := .u64) (zs := (List.range 20).map fun i => ((10 ^ i : Nat) : Int)) (g := 2) (t := 187) (e := 39) (n := 20) (by kernel_rfl) (by kernel_rfl) Tryz.underlying187 Tryz.underlying39 (by kernel_rfl) (by kernel_rfl) hv
 obtain ⟨⟨u, fr, h1⟩, ps2, hv2⟩ := texts_of_vars (zs := signsL) (g := 0) (t := 164) (e := 9) (n := 29) (by kernel_rfl) (by kernel_rfl) Tryz.underlying164 Tryz.underlying9 (by kernel_rfl) (by kernel_rfl) hv
 obtain ⟨⟨u2, fr2, h2⟩, _⟩ := texts_of_vars (zs := keysL) (g := 1) (t := 182) (e := 9) (n := 22) (by kernel_rfl) (by kernel_rfl) Tryz.underlying182 Tryz.underlying9 (by kernel_rfl) (by kernel_rfl) hv2
 exact ⟨⟨u, fr, h1⟩, ⟨u2, fr2, h2⟩, ⟨u0, fr0, by rw [h0, List.map_map]; rfl⟩⟩
noncomputable def laidWorld (os : Os) : World := World.laidAll Tryz.prog os Rows.goprintProgramsRow.laid
theorem laid_met (os : Os) : laidMet Tryz.prog Rows.goprintProgramsRow.laid ((laidWorld os).forCall (fun _ _ => 0) ⟨#[], #[Value.agg #[.slice none 0 0, .slice none 0 0]], []⟩).memory :=
 laidMet_laidAll _ (by kernel_rfl) (by kernel_rfl)
theorem reads (os : Os) {H : Type} (enc : TypeId × Value → H) : ∃ places, DataW.whole enc Tryz.prog ((laidWorld os).forCall (fun _ _ => 0) ⟨#[], #[Value.agg #[.slice none 0 0, .slice none 0 0]], []⟩).memory Tryz.f3.params.toList Rows.goprintProgramsSpec.vars false #[Value.agg #[.slice none 0 0, .slice none 0 0]].toList 8 = some ([.agg [.nil, .nil]], [], places) :=
 ⟨[], by kernel_rfl⟩
set_option maxRecDepth 100000 in
theorem lifted (os : Os) (started : os.Started) (H : Type) (enc : TypeId × Value → H) (F : Stop.Interp) :
 ReturnsInHanded {} Tryz.checked os 3 .any ((OpenSpec.ofChange Rows.goprintProgramsSpec).preRow enc Tryz.prog Tryz.f3 Rows.goprintProgramsRow.domain false Rows.goprintProgramsRow.laid) (((OpenSpec.ofChange Rows.goprintProgramsSpec).at F).post enc Tryz.prog Tryz.f3 false true false false) := by
 obtain ⟨places, hx⟩ := reads os enc
 refine returnsInHanded_of_row (C := Tryz.checked) (s := OpenSpec.ofChange Rows.goprintProgramsSpec) own started (by kernel_rfl) Tryz.func3
  (witness_row_at (enc := enc) (C := Tryz.checked) false (laidWorld os) #[Value.agg #[.slice none 0 0, .slice none 0 0]] (World.laidAll_os _ _ _) (by kernel_rfl) (by kernel_rfl) (by kernel_rfl)
   (OpenSpec.preRow_of_cond 8 hx (by kernel_rfl) (fun k hk => by cases hk) (by kernel_rfl) (laid_met os))) ?_
 intro W base args ds gs before hval hW _ _ _ hL _ _
 have hW' := hW
 obtain ⟨p, q, hA0, hV, rfl, hfz, hnd⟩ := hW
 have hA : DataW.TrodAll enc Tryz.prog W 0 (fun _ => true) true Tryz.f3.params.toList args.toList ds p := hA0
 rw [Tryz.params3] at hA hval
 obtain ⟨v0, vs0, d0, ds0, p0, q0, hargs, rfl, rfl, h0, r0⟩ := trodAll_cons hA
 obtain ⟨rfl, rfl, rfl⟩ := trodAll_nil r0
 obtain rfl : args = #[v0] := by cases args; simp_all
 obtain ⟨rfl, rfl⟩ := trodVars_none hV
 have hlt : ∀ x ∈ (p0 ++ []), x.block < W.heap.size := fun x hx => by simpa using hW'.lt x (by simpa using hx)
 obtain ⟨c0, rfl, _⟩ := okWide_struct Tryz.underlying25 (hval 0 25 v0 rfl rfl)
 obtain ⟨u0, g0⟩ := h0
 obtain ⟨y0, o0⟩ := open_D (W := W) (enc := enc) treeL treeL_ok u0 25 c0.toList _ (by kernel_rfl) g0
 have h0 := (⟨u0, g0⟩ : DataW.Trod enc Tryz.prog W 0 (fun _ => true) true 25 (.agg c0) d0 p0)
 have q0 := first_agg (I := TabI) o0
 obtain ⟨x0, hn0, rfl⟩ := wfn_pr o0.1
 clear hA0 hval
 simp only [List.append_nil] at hW'
 have hmx : maxLen = 9223372036854775807 := rfl
 have hT := tab hL
 refine ((progs_ab x0 hn0).law (W := W) (xs := #[.agg c0]) (show 1 + 0 + 1 ≤ W.heap.size by have := hT.size; omega) (fun w hb => hT.below hb) rfl (fun j hj => ?_)).mono fun e W' ⟨he, bel⟩ => ?_
 ·match j, hj with
  | 0, _ => exact q0
 subst he
 exact ⟨_, rfl, _, _, _, [], _, [], hW', trodAll_mk1 (shut_bool Tryz.underlying4 _), (trodAll_cons_mk (kept_arg (by kernel_rfl) (of_decide_eq_true (by kernel_rfl)) h0 bel (fun x hx => hlt x (by simp [hx]))) trodAll_mk0), rfl, bel.frame _, fun h => by cases h⟩
theorem said : Rows.GoprintProgramsSaid :=
 OpenClaim.holds_of_cond 3 Tryz.f3 rfl rfl rfl rfl rfl rfl rfl ⟨rfl, rfl, rfl, rfl, rfl⟩ rfl rfl rfl rfl rfl (by kernel_rfl) Tryz.func3 (by kernel_rfl)
  (of_decide_eq_true (by kernel_rfl)) (by unfold Func.isWrapper; first | (rw [if_pos (by decide +kernel)]; kernel_rfl) | (rw [if_neg (by decide +kernel)]; exact ⟨rfl, rfl⟩))
  (fun os started H enc _ F => by rw [OpenClaim.pre_eq_preRow]; exact lifted os started H enc F)
theorem plain (f : FuncId) (fn : Func) (hf : Tryz.pinned.checked.prog.funcNamed "avocet/avocetlaw26.GoprintPrograms" = some f) (hfn : Tryz.pinned.checked.prog.funcs[f]? = some fn) :
 false = Tryz.pinned.checked.prog.looks [] ∧ ∀ (j : Nat) t, fn.params[j]? = some t → Tryz.pinned.checked.prog.wantsStandIn t = false := by
 obtain rfl : f = 3 := Option.some.inj ((show Tryz.prog.funcNamed "avocet/avocetlaw26.GoprintPrograms" = some 3 by kernel_rfl).symm.trans hf) |>.symm
 obtain rfl : fn = Tryz.f3 := (Option.some.inj (Tryz.func3.symm.trans hfn)).symm
 refine ⟨by kernel_rfl, fun j t ht => ?_⟩
 rw [Tryz.params3] at ht
 have hm := Array.mem_of_getElem? ht
 have : t = 25 := by simpa using hm
 subst this
 exact (show Tryz.prog.wantsStandIn 25 = false by kernel_rfl)
theorem proved : Rows.GoprintProgramsCardSaid :=
 Claim7.holds_tied_plain_at .later [] _ _ _ _ said (fun _ h => by cases h) (by kernel_rfl) (fun _ h => by cases h) goprintPrograms_row_tie rfl ⟨rfl, rfl⟩ (by kernel_rfl) rfl plain (by kernel_rfl)
#print axioms proved
end Go.Proofs.YtfaoamebphckbaaGreatDoor.goprintPrograms
