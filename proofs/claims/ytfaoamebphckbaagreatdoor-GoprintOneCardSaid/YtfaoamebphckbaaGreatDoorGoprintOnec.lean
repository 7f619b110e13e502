/- Proved: GoprintOne, for any text: no condition. Part 3 of 6 of the proof. -/
import Derived.Test.YtfaoamebphckbaaGreatDoorGoprintOneb
import Derived.Lib.ItoaMem
import Derived.Lib.ItoaLen
import Derived.Lib.AppendIntMem
import Derived.Shelf.Strings.Repeat
import Derived.Shelf.Strconv.Itoa3
import Derived.ProofKit
namespace Go.Proofs.YtfaoamebphckbaaGreatDoor
open Go.RowKit Go.Av Go.Ab
set_option linter.unusedSimpArgs false
set_option maxRecDepth 100000
def walkF {α σ : Type} (f : α → σ → Bool × σ) : List α → Int → σ → Int × σ
 | [], _, s => (-1, s)
 | x :: l, i, s => if (f x s).1 = true then (i, (f x s).2) else walkF f l (i + 1) (f x s).2
def anyF {α σ : Type} (f : α → σ → Bool × σ) : List α → σ → Bool × σ
 | [], s => (false, s)
 | x :: l, s => if (f x s).1 = true then (true, (f x s).2) else anyF f l (f x s).2
theorem walkF_any {α σ : Type} (f : α → σ → Bool × σ) : ∀ (l : List α) (i : Int) (s : σ), 0 ≤ i → decide (0 ≤ (walkF f l i s).1) = (anyF f l s).1 ∧ (walkF f l i s).2 = (anyF f l s).2
 | [], i, s, _ => ⟨by simp [walkF, anyF], rfl⟩
 | x :: l, i, s, hi => by
  unfold walkF anyF
  cases h : (f x s).1
  ·simpa using walkF_any f l (i + 1) (f x s).2 (by omega)
  ·simpa using hi
def Good (P : Program) (I : Inv) {α σ : Type} (g : FuncId) (first caps : List V) (argV : α → V) (mem : σ → Mem) (f : α → σ → Bool × σ) : List α → σ → Prop
 | [], _ => True
 | x :: l, s => AFn P I g (first ++ [argV x] ++ caps) (mem s) (Same (.d (.bool (f x s).1)) (mem (f x s).2)) ∧ ((f x s).1 = false → Good P I g first caps argV mem f l (f x s).2)
set_option maxHeartbeats 1000000 in
theorem indexFunc_Type {σ : Type} (g : FuncId) (first caps : List V) (mem : σ → Mem) (f : TyT → σ → Bool × σ) (hm : ∀ s s', (mem s).boxes.length = (mem s').boxes.length ∧ (mem s).toks.length = (mem s').toks.length) (l : List TyT) (hl : l.length ≤ 9223372036854775807) (s0 : σ) (hg : Good Tryz.prog TabI g first caps tyV mem f l s0) :
 AFn Tryz.prog TabI 110 [.d (.sl (l.map tyD)), .func g first caps] (mem s0) (Same (.d (.int .i64 (walkF f l 0 s0).1)) (mem (walkF f l 0 s0).2)) := by
 refine AFn.body Tryz.func110 rfl (by kernel_rfl) ?_
 refine ARun.go 100 ?_
 simp only [Tryz.f110, WO, seval]
 refine ARun.loopW (fun p : Nat × σ => (envOf 19 [(0, .d (.sl (l.map tyD))), (1, .func g first caps), (6, .d (.sl (l.map tyD))), (7, .d (.int .i64 l.length)), (8, .d (.int .i64 p.1))], mem p.2)) (fun p => p.1 ≤ l.length ∧ walkF f l 0 s0 = walkF f (l.drop p.1) p.1 p.2 ∧ Good Tryz.prog TabI g first caps tyV mem f (l.drop p.1) p.2) (fun p => l.length - p.1) (0, s0) ⟨by omega, rfl, hg⟩ ?_ rfl ?_
 ·simp only [envOf, List.replicate_succ, List.replicate_zero, List.foldl_cons, List.foldl_nil, List.set_cons_zero, List.set_cons_succ, EnvW, eq_self, or_true, true_or, and_self, Int.natCast_add, Int.natCast_one, Int.natCast_zero]
 rintro ⟨i, s⟩ ⟨h1, h2, h3⟩ ih
 dsimp only at h1 h2 h3 ih ⊢
 by_cases hlt : i < l.length
 ·have hw := wrap_in ((i : Int) + 1) (by omega)
  have hge := List.getElem?_eq_getElem hlt
  rw [drop_get hlt] at h2 h3
  obtain ⟨h4, h5⟩ := h3
  have hlt' : decide ((i : Int) < (l.length : Int)) = true := decide_eq_true (by omega)
  refine ARun.go 100 ?_
  simp only [WO, seval, List.getElem?_map, hge, hlt', hw, tyD_eq]
  refine callS_of h4 ?_
  rintro _ _ ⟨rfl, rfl⟩
  refine ARun.go 100 ?_
  simp only [WO, seval, hw]
  refine condS_of (fun h => ?_) (fun h => ?_)
  ·simp only [WO, seval, h]
   refine ARun.fits fun hf => ?_
   refine ARun.ret Tryz.func110 rfl (Left.fits hf (hm _ _).1 (hm _ _).2 ?_)
   have e : walkF f (l[i] :: l.drop (i + 1)) (i : Int) s = ((i : Int), (f l[i] s).2) := by simp [walkF, h]
   rw [h2, e]
   exact ⟨rfl, rfl⟩
  ·simp only [WO, seval, h, hw]
   have e : walkF f (l[i] :: l.drop (i + 1)) (i : Int) s = walkF f (l.drop (i + 1)) ((i + 1 : Nat) : Int) (f l[i] s).2 := by simp [walkF, h]
   refine ih (i + 1, (f l[i] s).2) ⟨hlt, h2.trans e, h5 h⟩ (by simp only; omega) _ _ ?_ rfl
   simp only [envOf, List.replicate_succ, List.replicate_zero, List.foldl_cons, List.foldl_nil, List.set_cons_zero, List.set_cons_succ, EnvW, eq_self, or_true, true_or, and_self, Int.natCast_add, Int.natCast_one, Int.natCast_zero]
 ·have hlt' : decide ((i : Int) < (l.length : Int)) = false := decide_eq_false (by omega)
  refine ARun.go 100 ?_
  simp only [WO, seval, hlt']
  refine ARun.fits fun hf => ?_
  refine ARun.ret Tryz.func110 rfl (Left.fits hf (hm _ _).1 (hm _ _).2 ?_)
  rw [h2, List.drop_eq_nil_of_le (by omega)]
  exact ⟨rfl, rfl⟩
theorem containsFunc_Type {σ : Type} (g : FuncId) (first caps : List V) (mem : σ → Mem) (f : TyT → σ → Bool × σ) (hm : ∀ s s', (mem s).boxes.length = (mem s').boxes.length ∧ (mem s).toks.length = (mem s').toks.length) (l : List TyT) (hl : l.length ≤ 9223372036854775807) (s0 : σ) (hg : Good Tryz.prog TabI g first caps tyV mem f l s0) :
 AFn Tryz.prog TabI 81 [.d (.sl (l.map tyD)), .func g first caps] (mem s0) (Same (.d (.bool (anyF f l s0).1)) (mem (anyF f l s0).2)) := by
 obtain ⟨e1, e2⟩ := walkF_any f l 0 s0 (Int.le_refl 0)
 refine AFn.body Tryz.func81 rfl (by kernel_rfl) ?_
 refine ARun.go 100 ?_
 simp only [Tryz.f81, WO, seval]
 refine callS_fn (indexFunc_Type g first caps mem f hm l hl s0 hg) ?_
 rintro _ _ ⟨rfl, rfl⟩
 refine ARun.go 100 ?_
 simp only [WO, seval, e1]
 refine ARun.fits fun hf => ?_
 refine ARun.ret Tryz.func81 rfl (Left.fits hf (hm _ _).1 (hm _ _).2 ?_)
 rw [e2]
 exact ⟨rfl, rfl⟩
set_option maxHeartbeats 1000000 in
theorem indexFunc_Stmt {σ : Type} (g : FuncId) (first caps : List V) (mem : σ → Mem) (f : StT → σ → Bool × σ) (hm : ∀ s s', (mem s).boxes.length = (mem s').boxes.length ∧ (mem s).toks.length = (mem s').toks.length) (l : List StT) (hl : l.length ≤ 9223372036854775807) (s0 : σ) (hg : Good Tryz.prog TabI g first caps stV mem f l s0) :
 AFn Tryz.prog TabI 140 [.d (.sl (l.map stD)), .func g first caps] (mem s0) (Same (.d (.int .i64 (walkF f l 0 s0).1)) (mem (walkF f l 0 s0).2)) := by
 refine AFn.body Tryz.func140 rfl (by kernel_rfl) ?_
 refine ARun.go 100 ?_
 simp only [Tryz.f140, WO, seval]
 refine ARun.loopW (fun p : Nat × σ => (envOf 19 [(0, .d (.sl (l.map stD))), (1, .func g first caps), (6, .d (.sl (l.map stD))), (7, .d (.int .i64 l.length)), (8, .d (.int .i64 p.1))], mem p.2)) (fun p => p.1 ≤ l.length ∧ walkF f l 0 s0 = walkF f (l.drop p.1) p.1 p.2 ∧ Good Tryz.prog TabI g first caps stV mem f (l.drop p.1) p.2) (fun p => l.length - p.1) (0, s0) ⟨by omega, rfl, hg⟩ ?_ rfl ?_
 ·simp only [envOf, List.replicate_succ, List.replicate_zero, List.foldl_cons, List.foldl_nil, List.set_cons_zero, List.set_cons_succ, EnvW, eq_self, or_true, true_or, and_self, Int.natCast_add, Int.natCast_one, Int.natCast_zero]
 rintro ⟨i, s⟩ ⟨h1, h2, h3⟩ ih
 dsimp only at h1 h2 h3 ih ⊢
 by_cases hlt : i < l.length
 ·have hw := wrap_in ((i : Int) + 1) (by omega)
  have hge := List.getElem?_eq_getElem hlt
  rw [drop_get hlt] at h2 h3
  obtain ⟨h4, h5⟩ := h3
  have hlt' : decide ((i : Int) < (l.length : Int)) = true := decide_eq_true (by omega)
  refine ARun.go 100 ?_
  simp only [WO, seval, List.getElem?_map, hge, hlt', hw, stD_eq]
  refine callS_of h4 ?_
  rintro _ _ ⟨rfl, rfl⟩
  refine ARun.go 100 ?_
  simp only [WO, seval, hw]
  refine condS_of (fun h => ?_) (fun h => ?_)
  ·simp only [WO, seval, h]
   refine ARun.fits fun hf => ?_
   refine ARun.ret Tryz.func140 rfl (Left.fits hf (hm _ _).1 (hm _ _).2 ?_)
   have e : walkF f (l[i] :: l.drop (i + 1)) (i : Int) s = ((i : Int), (f l[i] s).2) := by simp [walkF, h]
   rw [h2, e]
   exact ⟨rfl, rfl⟩
  ·simp only [WO, seval, h, hw]
   have e : walkF f (l[i] :: l.drop (i + 1)) (i : Int) s = walkF f (l.drop (i + 1)) ((i + 1 : Nat) : Int) (f l[i] s).2 := by simp [walkF, h]
   refine ih (i + 1, (f l[i] s).2) ⟨hlt, h2.trans e, h5 h⟩ (by simp only; omega) _ _ ?_ rfl
   simp only [envOf, List.replicate_succ, List.replicate_zero, List.foldl_cons, List.foldl_nil, List.set_cons_zero, List.set_cons_succ, EnvW, eq_self, or_true, true_or, and_self, Int.natCast_add, Int.natCast_one, Int.natCast_zero]
 ·have hlt' : decide ((i : Int) < (l.length : Int)) = false := decide_eq_false (by omega)
  refine ARun.go 100 ?_
  simp only [WO, seval, hlt']
  refine ARun.fits fun hf => ?_
  refine ARun.ret Tryz.func140 rfl (Left.fits hf (hm _ _).1 (hm _ _).2 ?_)
  rw [h2, List.drop_eq_nil_of_le (by omega)]
  exact ⟨rfl, rfl⟩
theorem containsFunc_Stmt {σ : Type} (g : FuncId) (first caps : List V) (mem : σ → Mem) (f : StT → σ → Bool × σ) (hm : ∀ s s', (mem s).boxes.length = (mem s').boxes.length ∧ (mem s).toks.length = (mem s').toks.length) (l : List StT) (hl : l.length ≤ 9223372036854775807) (s0 : σ) (hg : Good Tryz.prog TabI g first caps stV mem f l s0) :
 AFn Tryz.prog TabI 111 [.d (.sl (l.map stD)), .func g first caps] (mem s0) (Same (.d (.bool (anyF f l s0).1)) (mem (anyF f l s0).2)) := by
 obtain ⟨e1, e2⟩ := walkF_any f l 0 s0 (Int.le_refl 0)
 refine AFn.body Tryz.func111 rfl (by kernel_rfl) ?_
 refine ARun.go 100 ?_
 simp only [Tryz.f111, WO, seval]
 refine callS_fn (indexFunc_Stmt g first caps mem f hm l hl s0 hg) ?_
 rintro _ _ ⟨rfl, rfl⟩
 refine ARun.go 100 ?_
 simp only [WO, seval, e1]
 refine ARun.fits fun hf => ?_
 refine ARun.ret Tryz.func111 rfl (Left.fits hf (hm _ _).1 (hm _ _).2 ?_)
 rw [e2]
 exact ⟨rfl, rfl⟩
set_option maxHeartbeats 1000000 in
theorem indexFunc_Case {σ : Type} (g : FuncId) (first caps : List V) (mem : σ → Mem) (f : CaT → σ → Bool × σ) (hm : ∀ s s', (mem s).boxes.length = (mem s').boxes.length ∧ (mem s).toks.length = (mem s').toks.length) (l : List CaT) (hl : l.length ≤ 9223372036854775807) (s0 : σ) (hg : Good Tryz.prog TabI g first caps caV mem f l s0) :
 AFn Tryz.prog TabI 165 [.d (.sl (l.map caD)), .func g first caps] (mem s0) (Same (.d (.int .i64 (walkF f l 0 s0).1)) (mem (walkF f l 0 s0).2)) := by
 refine AFn.body Tryz.func165 rfl (by kernel_rfl) ?_
 refine ARun.go 100 ?_
 simp only [Tryz.f165, WO, seval]
 refine ARun.loopW (fun p : Nat × σ => (envOf 19 [(0, .d (.sl (l.map caD))), (1, .func g first caps), (6, .d (.sl (l.map caD))), (7, .d (.int .i64 l.length)), (8, .d (.int .i64 p.1))], mem p.2)) (fun p => p.1 ≤ l.length ∧ walkF f l 0 s0 = walkF f (l.drop p.1) p.1 p.2 ∧ Good Tryz.prog TabI g first caps caV mem f (l.drop p.1) p.2) (fun p => l.length - p.1) (0, s0) ⟨by omega, rfl, hg⟩ ?_ rfl ?_
 ·simp only [envOf, List.replicate_succ, List.replicate_zero, List.foldl_cons, List.foldl_nil, List.set_cons_zero, List.set_cons_succ, EnvW, eq_self, or_true, true_or, and_self, Int.natCast_add, Int.natCast_one, Int.natCast_zero]
 rintro ⟨i, s⟩ ⟨h1, h2, h3⟩ ih
 dsimp only at h1 h2 h3 ih ⊢
 by_cases hlt : i < l.length
 ·have hw := wrap_in ((i : Int) + 1) (by omega)
  have hge := List.getElem?_eq_getElem hlt
  rw [drop_get hlt] at h2 h3
  obtain ⟨h4, h5⟩ := h3
  have hlt' : decide ((i : Int) < (l.length : Int)) = true := decide_eq_true (by omega)
  refine ARun.go 100 ?_
  simp only [WO, seval, List.getElem?_map, hge, hlt', hw, caD_eq]
  refine callS_of h4 ?_
  rintro _ _ ⟨rfl, rfl⟩
  refine ARun.go 100 ?_
  simp only [WO, seval, hw]
  refine condS_of (fun h => ?_) (fun h => ?_)
  ·simp only [WO, seval, h]
   refine ARun.fits fun hf => ?_
   refine ARun.ret Tryz.func165 rfl (Left.fits hf (hm _ _).1 (hm _ _).2 ?_)
   have e : walkF f (l[i] :: l.drop (i + 1)) (i : Int) s = ((i : Int), (f l[i] s).2) := by simp [walkF, h]
   rw [h2, e]
   exact ⟨rfl, rfl⟩
  ·simp only [WO, seval, h, hw]
   have e : walkF f (l[i] :: l.drop (i + 1)) (i : Int) s = walkF f (l.drop (i + 1)) ((i + 1 : Nat) : Int) (f l[i] s).2 := by simp [walkF, h]
   refine ih (i + 1, (f l[i] s).2) ⟨hlt, h2.trans e, h5 h⟩ (by simp only; omega) _ _ ?_ rfl
   simp only [envOf, List.replicate_succ, List.replicate_zero, List.foldl_cons, List.foldl_nil, List.set_cons_zero, List.set_cons_succ, EnvW, eq_self, or_true, true_or, and_self, Int.natCast_add, Int.natCast_one, Int.natCast_zero]
 ·have hlt' : decide ((i : Int) < (l.length : Int)) = false := decide_eq_false (by omega)
  refine ARun.go 100 ?_
  simp only [WO, seval, hlt']
  refine ARun.fits fun hf => ?_
  refine ARun.ret Tryz.func165 rfl (Left.fits hf (hm _ _).1 (hm _ _).2 ?_)
  rw [h2, List.drop_eq_nil_of_le (by omega)]
  exact ⟨rfl, rfl⟩
theorem containsFunc_Case {σ : Type} (g : FuncId) (first caps : List V) (mem : σ → Mem) (f : CaT → σ → Bool × σ) (hm : ∀ s s', (mem s).boxes.length = (mem s').boxes.length ∧ (mem s).toks.length = (mem s').toks.length) (l : List CaT) (hl : l.length ≤ 9223372036854775807) (s0 : σ) (hg : Good Tryz.prog TabI g first caps caV mem f l s0) :
 AFn Tryz.prog TabI 142 [.d (.sl (l.map caD)), .func g first caps] (mem s0) (Same (.d (.bool (anyF f l s0).1)) (mem (anyF f l s0).2)) := by
 obtain ⟨e1, e2⟩ := walkF_any f l 0 s0 (Int.le_refl 0)
 refine AFn.body Tryz.func142 rfl (by kernel_rfl) ?_
 refine ARun.go 100 ?_
 simp only [Tryz.f142, WO, seval]
 refine callS_fn (indexFunc_Case g first caps mem f hm l hl s0 hg) ?_
 rintro _ _ ⟨rfl, rfl⟩
 refine ARun.go 100 ?_
 simp only [WO, seval, e1]
 refine ARun.fits fun hf => ?_
 refine ARun.ret Tryz.func142 rfl (Left.fits hf (hm _ _).1 (hm _ _).2 ?_)
 rw [e2]
 exact ⟨rfl, rfl⟩
set_option maxHeartbeats 1000000 in
theorem indexFunc_Expr {σ : Type} (g : FuncId) (first caps : List V) (mem : σ → Mem) (f : ExT → σ → Bool × σ) (hm : ∀ s s', (mem s).boxes.length = (mem s').boxes.length ∧ (mem s).toks.length = (mem s').toks.length) (l : List ExT) (hl : l.length ≤ 9223372036854775807) (s0 : σ) (hg : Good Tryz.prog TabI g first caps exV mem f l s0) :
 AFn Tryz.prog TabI 177 [.d (.sl (l.map exD)), .func g first caps] (mem s0) (Same (.d (.int .i64 (walkF f l 0 s0).1)) (mem (walkF f l 0 s0).2)) := by
 refine AFn.body Tryz.func177 rfl (by kernel_rfl) ?_
 refine ARun.go 100 ?_
 simp only [Tryz.f177, WO, seval]
 refine ARun.loopW (fun p : Nat × σ => (envOf 19 [(0, .d (.sl (l.map exD))), (1, .func g first caps), (6, .d (.sl (l.map exD))), (7, .d (.int .i64 l.length)), (8, .d (.int .i64 p.1))], mem p.2)) (fun p => p.1 ≤ l.length ∧ walkF f l 0 s0 = walkF f (l.drop p.1) p.1 p.2 ∧ Good Tryz.prog TabI g first caps exV mem f (l.drop p.1) p.2) (fun p => l.length - p.1) (0, s0) ⟨by omega, rfl, hg⟩ ?_ rfl ?_
 ·simp only [envOf, List.replicate_succ, List.replicate_zero, List.foldl_cons, List.foldl_nil, List.set_cons_zero, List.set_cons_succ, EnvW, eq_self, or_true, true_or, and_self, Int.natCast_add, Int.natCast_one, Int.natCast_zero]
 rintro ⟨i, s⟩ ⟨h1, h2, h3⟩ ih
 dsimp only at h1 h2 h3 ih ⊢
 by_cases hlt : i < l.length
 ·have hw := wrap_in ((i : Int) + 1) (by omega)
  have hge := List.getElem?_eq_getElem hlt
  rw [drop_get hlt] at h2 h3
  obtain ⟨h4, h5⟩ := h3
  have hlt' : decide ((i : Int) < (l.length : Int)) = true := decide_eq_true (by omega)
  refine ARun.go 100 ?_
  simp only [WO, seval, List.getElem?_map, hge, hlt', hw, exD_eq]
  refine callS_of h4 ?_
  rintro _ _ ⟨rfl, rfl⟩
  refine ARun.go 100 ?_
  simp only [WO, seval, hw]
  refine condS_of (fun h => ?_) (fun h => ?_)
  ·simp only [WO, seval, h]
   refine ARun.fits fun hf => ?_
   refine ARun.ret Tryz.func177 rfl (Left.fits hf (hm _ _).1 (hm _ _).2 ?_)
   have e : walkF f (l[i] :: l.drop (i + 1)) (i : Int) s = ((i : Int), (f l[i] s).2) := by simp [walkF, h]
   rw [h2, e]
   exact ⟨rfl, rfl⟩
  ·simp only [WO, seval, h, hw]
   have e : walkF f (l[i] :: l.drop (i + 1)) (i : Int) s = walkF f (l.drop (i + 1)) ((i + 1 : Nat) : Int) (f l[i] s).2 := by simp [walkF, h]
   refine ih (i + 1, (f l[i] s).2) ⟨hlt, h2.trans e, h5 h⟩ (by simp only; omega) _ _ ?_ rfl
   simp only [envOf, List.replicate_succ, List.replicate_zero, List.foldl_cons, List.foldl_nil, List.set_cons_zero, List.set_cons_succ, EnvW, eq_self, or_true, true_or, and_self, Int.natCast_add, Int.natCast_one, Int.natCast_zero]
 ·have hlt' : decide ((i : Int) < (l.length : Int)) = false := decide_eq_false (by omega)
  refine ARun.go 100 ?_
  simp only [WO, seval, hlt']
  refine ARun.fits fun hf => ?_
  refine ARun.ret Tryz.func177 rfl (Left.fits hf (hm _ _).1 (hm _ _).2 ?_)
  rw [h2, List.drop_eq_nil_of_le (by omega)]
  exact ⟨rfl, rfl⟩
theorem containsFunc_Expr {σ : Type} (g : FuncId) (first caps : List V) (mem : σ → Mem) (f : ExT → σ → Bool × σ) (hm : ∀ s s', (mem s).boxes.length = (mem s').boxes.length ∧ (mem s).toks.length = (mem s').toks.length) (l : List ExT) (hl : l.length ≤ 9223372036854775807) (s0 : σ) (hg : Good Tryz.prog TabI g first caps exV mem f l s0) :
 AFn Tryz.prog TabI 161 [.d (.sl (l.map exD)), .func g first caps] (mem s0) (Same (.d (.bool (anyF f l s0).1)) (mem (anyF f l s0).2)) := by
 obtain ⟨e1, e2⟩ := walkF_any f l 0 s0 (Int.le_refl 0)
 refine AFn.body Tryz.func161 rfl (by kernel_rfl) ?_
 refine ARun.go 100 ?_
 simp only [Tryz.f161, WO, seval]
 refine callS_fn (indexFunc_Expr g first caps mem f hm l hl s0 hg) ?_
 rintro _ _ ⟨rfl, rfl⟩
 refine ARun.go 100 ?_
 simp only [WO, seval, e1]
 refine ARun.fits fun hf => ?_
 refine ARun.ret Tryz.func161 rfl (Left.fits hf (hm _ _).1 (hm _ _).2 ?_)
 rw [e2]
 exact ⟨rfl, rfl⟩
set_option maxHeartbeats 1000000 in
theorem many_ab (k : Int) (B : List (List V)) (T : List (Nat × Nat)) : AFn Tryz.prog TabI 99 [.d (.int .i64 k)] ⟨B, T⟩ (Same (.d (.int .i64 (manyS k))) ⟨B, T⟩) := by
 refine AFn.body Tryz.func99 rfl (by kernel_rfl) ?_
 refine ARun.go 300 ?_
 simp only [Tryz.f99, WO, seval]
 repeat' ((first | refine guardB_of (fun h => ?_) (fun h => ?_) | refine condS_of (fun h => ?_) (fun h => ?_)) <;> simp only [WO, seval, h])
 all_goals
  refine ARun.ret Tryz.func99 rfl (Left.none ?_)
  first
   | (obtain rfl := of_decide_eq_true h
      exact ⟨rfl, rfl⟩)
   | (simp only [decide_eq_false_iff_not] at *
      refine ⟨?_, rfl⟩
      have : manyS k = -2 := by simp [manyS, *]
      rw [this]
      rfl)
theorem rank_no (s : List UInt8) (h : ∀ x ∈ rankT, ¬ s = x.1) : rankS s = 0 := by
 unfold rankS
 rw [List.find?_eq_none.2 fun x hx => by simpa using fun e => h x hx e.symm]
 rfl
set_option maxHeartbeats 2000000 in
theorem rank_ab (s : List UInt8) (B : List (List V)) (T : List (Nat × Nat)) : AFn Tryz.prog TabI 105 [.d (.str s)] ⟨B, T⟩ (Same (.d (.int .i64 (rankS s))) ⟨B, T⟩) := by
 refine AFn.body Tryz.func105 rfl (by kernel_rfl) ?_
 refine ARun.go 400 ?_
 simp only [Tryz.f105, WO, seval]
 repeat' ((first | refine guardB_of (fun h => ?_) (fun h => ?_) | refine condS_of (fun h => ?_) (fun h => ?_)) <;> simp only [WO, seval, h])
 all_goals
  refine ARun.ret Tryz.func105 rfl (Left.none ?_)
  first
   | (obtain rfl := of_decide_eq_true h
      exact ⟨rfl, rfl⟩)
   | (simp only [decide_eq_false_iff_not] at *
      refine ⟨?_, rfl⟩
      have : rankS s = 0 := rank_no s (by simp [rankT, *])
      rw [this]
      rfl)
theorem diffS_succ (n : Nat) (l : List (List UInt8)) (h : n < l.length) : diffS (n + 1) l = (diffS n l && identS l[n] && !(l.take n).contains l[n]) := by
 have : l.getD n [] = l[n] := by simp [List.getD, h]
 simp only [diffS, this, hasS]
set_option maxHeartbeats 1000000 in
theorem different_ab (l : List (List UInt8)) (hl : l.length ≤ 9223372036854775807) (B : List (List V)) (T : List (Nat × Nat)) : AFn Tryz.prog TabI 109 [.d (.sl (ssD l))] ⟨B, T⟩ (Same (.d (.bool (diffS l.length l))) ⟨B, T⟩) := by
 refine AFn.body Tryz.func109 rfl (by kernel_rfl) ?_
 refine ARun.go 100 ?_
 simp only [Tryz.f109, WO, seval]
 refine ARun.loopW (fun i : Nat => (envOf 23 [(0, .d (.sl (ssD l))), (5, .d (.sl (ssD l))), (6, .d (.int .i64 l.length)), (7, .d (.int .i64 i))], ⟨B, T⟩)) (fun i => i ≤ l.length ∧ diffS i l = true) (fun i => l.length - i) 0 ⟨by omega, rfl⟩ ?_ rfl ?_
 ·simp only [envOf, List.replicate_succ, List.replicate_zero, List.foldl_cons, List.foldl_nil, List.set_cons_zero, List.set_cons_succ, EnvW, eq_self, or_true, true_or, and_self, Int.natCast_add, Int.natCast_one, Int.natCast_zero]
 rintro i ⟨h1, h2⟩ ih
 by_cases hlt : i < l.length
 ·have hw := wrap_in ((i : Int) + 1) (by omega)
  have hg := List.getElem?_eq_getElem hlt
  have hs := diffS_succ i l hlt
  rw [h2, Bool.true_and] at hs
  have hle : (i : Int) ≤ (l.length : Int) := by omega
  have hlt' : decide ((i : Int) < (l.length : Int)) = true := decide_eq_true (by omega)
  refine ARun.go 100 ?_
  simp only [WO, seval, hg, hlt', hw]
  refine callS_fn (ident_ab _ _) ?_
  rintro _ _ ⟨rfl, rfl⟩
  refine ARun.go 100 ?_
  simp only [WO, seval, hw]
  cases hI : identS l[i]
  ·simp only [WO, seval, hI, Bool.not_false]
   refine ARun.ret Tryz.func109 rfl (Left.none ?_)
   have : diffS l.length l = false := diffS_no l (i + 1) (by rw [hs, hI]; rfl) _ (by omega)
   rw [this]
   exact ⟨rfl, rfl⟩
  ·simp only [WO, seval, hI, Bool.not_true, hle]
   refine callS_fn (contains_str_ab _ _ (by simp; omega) _) ?_
   rintro _ _ ⟨rfl, rfl⟩
   refine ARun.go 100 ?_
   simp only [WO, seval, hw]
   refine condS_of (fun h => ?_) (fun h => ?_)
   ·simp only [WO, seval, h]
    refine ARun.ret Tryz.func109 rfl (Left.none ?_)
    have : diffS l.length l = false := diffS_no l (i + 1) (by rw [hs, hI, h]; rfl) _ (by omega)
    rw [this]
    exact ⟨rfl, rfl⟩
   ·simp only [WO, seval, h, hw]
    refine ih (i + 1) ⟨hlt, by rw [hs, hI, h]; rfl⟩ (by omega) _ _ ?_ rfl
    simp only [envOf, List.replicate_succ, List.replicate_zero, List.foldl_cons, List.foldl_nil, List.set_cons_zero, List.set_cons_succ, EnvW, eq_self, or_true, true_or, and_self, Int.natCast_add, Int.natCast_one, Int.natCast_zero]
 ·have hlt' : decide ((i : Int) < (l.length : Int)) = false := decide_eq_false (by omega)
  refine ARun.go 100 ?_
  simp only [WO, seval, hlt']
  refine ARun.ret Tryz.func109 rfl (Left.none ?_)
  obtain rfl : i = l.length := by omega
  rw [h2]
  exact ⟨rfl, rfl⟩
theorem good_of {P : Program} {I : Inv} {α : Type} {g : FuncId} {first caps : List V} {argV : α → V} {S : Mem} {f : α → Bool} : ∀ (l : List α), (∀ x ∈ l, AFn P I g (first ++ [argV x] ++ caps) S (Same (.d (.bool (f x))) S)) → Good P I g first caps argV (fun _ : Unit => S) (fun x s => (f x, s)) l ()
 | [], _ => trivial
 | x :: l, h => ⟨h x List.mem_cons_self, fun _ => good_of l fun y hy => h y (List.mem_cons_of_mem _ hy)⟩
theorem anyF_unit {α : Type} (f : α → Bool) : ∀ l : List α, (anyF (fun x (s : Unit) => (f x, s)) l ()).1 = l.any f
 | [] => rfl
 | x :: l => by
  unfold anyF
  cases h : f x
  ·simp [h, anyF_unit f l]
  ·simp [h]
theorem headsS_all : ∀ l : List ExT, headsS l = l.all headS
 | [] => by rw [headsS]; rfl
 | x :: l => by rw [headsS, headsS_all l]; rfl
theorem any_not {α : Type} (f : α → Bool) (l : List α) : l.any (fun x => !f x) = !l.all f := by
 induction l with
 | nil => rfl
 | cons x l ih => simp [ih, Bool.not_and]
def HeadOk (x : ExT) : Prop := ∀ (B : List (List V)) (T : List (Nat × Nat)), AFn Tryz.prog TabI 164 [exV x] ⟨B, T⟩ (Same (.d (.bool (headS x))) ⟨B, T⟩)
set_option maxHeartbeats 1000000 in
theorem head1_ab (x : ExT) (h : HeadOk x) (B : List (List V)) (T : List (Nat × Nat)) : AFn Tryz.prog TabI 178 [exV x] ⟨B, T⟩ (Same (.d (.bool (!headS x))) ⟨B, T⟩) := by
 obtain ⟨N, hn⟩ : ∃ N, B.length = N := ⟨_, rfl⟩
 have h := h (B ++ [[.d (.int .i64 x.kind), .d (.str x.text), .d (.int .u64 x.int), .d (.int .i64 x.type.kind), .d (.str x.type.name), .d (.sl (x.type.elem.map tyD)), .d (.sl (ssD x.names)), .d (.sl (x.kids.map exD))]]) T
 unfold exV at h ⊢
 refine AFn.body Tryz.func178 rfl (by kernel_rfl) ?_
 refine ARun.go 100 ?_
 simp only [Tryz.f178, WO, seval, hn]
 refine callS_fn (h) ?_
 rintro _ _ ⟨rfl, rfl⟩
 refine ARun.go 100 ?_
 simp only [WO, seval, hn]
 refine ARun.ret Tryz.func178 rfl (Left.box ?_)
 exact ⟨rfl, rfl⟩
set_option maxHeartbeats 2000000 in
theorem head_step (k : Int) (t : List UInt8) (i : Int) (ty : TyT) (ns : List (List UInt8)) (ks : List ExT) (hx : ∀ x ∈ ks, HeadOk x) : HeadOk (.mk k t i ty ns ks) := by
 intro B T
 obtain ⟨N, hn⟩ : ∃ N, B.length = N := ⟨_, rfl⟩
 have hS : headS (.mk k t i ty ns ks) = (decide (k ≠ 14) && decide (k ≠ 15) && ks.all headS) := by rw [headS, headsS_all]
 simp only [exV, ExT.kind, ExT.text, ExT.int, ExT.type, ExT.names, ExT.kids]
 refine AFn.bodyS Tryz.func164 rfl (by kernel_rfl) fun hsm => ?_
 simp only [smL, sm, exV, stV, tyV, caV, paV, suV, fuV, prV, Bool.and_eq_true, decide_eq_true_eq, and_true, true_and, List.length_map, ssD_length] at hsm
 refine ARun.go 100 ?_
 simp only [Tryz.f164, WO, seval, hn]
 obtain ⟨-, -, -, -, hl⟩ := hsm
 repeat' ((first | refine guardB_of (fun h => ?_) (fun h => ?_) | refine condS_of (fun h => ?_) (fun h => ?_)) <;> simp only [WO, seval, h, hn])
 all_goals first
  | (refine ARun.ret Tryz.func164 rfl (Left.box ?_)
     rw [hS]
     (try clear ih)
     (try simp only [dnw] at *)
     simp only [fnw, seval, Same] <;> simp [*]
     skip)
  | (refine callS_fn (containsFunc_Expr 178 [] [] (fun _ : Unit => _) (fun x s => (!headS x, s)) (fun _ _ => ⟨rfl, rfl⟩) ks hl () (good_of ks fun x hm => head1_ab x (hx x hm) _ T)) ?_
     rintro _ _ ⟨rfl, rfl⟩
     rw [anyF_unit, any_not]
     refine ARun.go 100 ?_
     simp only [WO, seval, hn]
     refine ARun.ret Tryz.func164 rfl (Left.box ?_)
     rw [hS]
     (try clear ih)
     (try simp only [dnw] at *)
     simp only [fnw, seval, Same] <;> simp [*]
     skip)
mutual
theorem head_ab : ∀ x : ExT, HeadOk x
 | .mk k t i ty ns ks => head_step k t i ty ns ks (head_all ks)
theorem head_all : ∀ (ks : List ExT), ∀ x ∈ ks, HeadOk x
 | [], _, h => absurd h List.not_mem_nil
 | y :: l, x, h => by
  rcases List.mem_cons.1 h with e | e
  ·rw [e]; exact head_ab y
  ·exact head_all l x e
end
def exB (x : ExT) : List V := [.d (.int .i64 x.kind), .d (.str x.text), .d (.int .u64 x.int), .d (.int .i64 x.type.kind), .d (.str x.type.name), .d (.sl (x.type.elem.map tyD)), .d (.sl (ssD x.names)), .d (.sl (x.kids.map exD))]
theorem placeS_mk (k : Int) (t : List UInt8) (i : Int) (ty : TyT) (ns : List (List UInt8)) (ks : List ExT) : placeS (.mk k t i ty ns ks) = match ks with | [y] => if k = 9 then placeS y else decide (k = 1) | _ => decide (k = 1) := by
 rcases ks with _ | ⟨z, _ | ⟨z2, l⟩⟩ <;> simp [placeS]
set_option maxHeartbeats 2000000 in
theorem place_ab (x : ExT) (B : List (List V)) (T : List (Nat × Nat)) : AFn Tryz.prog TabI 163 [exV x] ⟨B, T⟩ (Same (.d (.bool (placeS x))) ⟨B, T⟩) := by
 obtain ⟨N, hn⟩ : ∃ N, B.length = N := ⟨_, rfl⟩
 unfold exV
 refine AFn.body Tryz.func163 rfl (by kernel_rfl) ?_
 refine ARun.go 100 ?_
 simp only [Tryz.f163, WO, seval, hn]
 refine ARun.loopW (fun y : ExT => (envOf 19 [(1, .ptr N 0)], ⟨B ++ [exB y], T⟩)) (fun y => placeS y = placeS x) (fun y => SizeOf.sizeOf y) x rfl ?_ rfl ?_
 ·simp only [envOf, List.replicate_succ, List.replicate_zero, List.foldl_cons, List.foldl_nil, List.set_cons_zero, List.set_cons_succ, EnvW, eq_self, or_true, true_or, and_self, Int.natCast_add, Int.natCast_one, Int.natCast_zero]
 rintro y hy ih
 cases y with
 | mk k t i ty ns ks =>
 have hp := placeS_mk k t i ty ns ks
 dsimp only [exB] at ih ⊢
 dsimp only [ExT.kind, ExT.text, ExT.int, ExT.type, ExT.names, ExT.kids] at ⊢
 rw [hp] at hy
 rcases ks with _ | ⟨z, _ | ⟨z2, l⟩⟩
 ·dsimp only at hy
  refine ARun.go 100 ?_
  simp only [WO, seval, hn, exD_eq]
  repeat' ((first | refine guardB_of (fun h => ?_) (fun h => ?_) | refine condS_of (fun h => ?_) (fun h => ?_)) <;> simp only [WO, seval, h, hn, exD_eq])
  all_goals
   refine ARun.ret Tryz.func163 rfl (Left.box ?_)
   rw [← hy]
   (try clear ih)
   (try simp only [dnw] at *)
   simp only [fnw, seval, Same] <;> simp [*]
   skip
 ·dsimp only at hy
  refine ARun.go 100 ?_
  simp only [WO, seval, hn, exD_eq]
  repeat' ((first | refine guardB_of (fun h => ?_) (fun h => ?_) | refine condS_of (fun h => ?_) (fun h => ?_)) <;> simp only [WO, seval, h, hn, exD_eq])
  all_goals first
   | (refine ARun.ret Tryz.func163 rfl (Left.box ?_)
      rw [← hy]
      (try clear ih)
      (try simp only [dnw] at *)
      simp only [fnw, seval, Same] <;> simp [*]
      skip)
   | (refine ih z ?_ (by simp only [ExT.mk.sizeOf_spec, List.cons.sizeOf_spec]; omega) _ _ ?_ ?_
      ·rw [← hy, if_pos (of_decide_eq_true (by assumption))]
      ·skip
       simp only [envOf, List.replicate_succ, List.replicate_zero, List.foldl_cons, List.foldl_nil, List.set_cons_zero, List.set_cons_succ, EnvW, eq_self, or_true, true_or, and_self, Int.natCast_add, Int.natCast_one, Int.natCast_zero]
       skip
      ·rfl)
 ·have hl2 : decide ((l.length : Int) + 1 + 1 = 1) = false := decide_eq_false (by omega)
  dsimp only at hy
  refine ARun.go 100 ?_
  simp only [WO, seval, hn, exD_eq, hl2]
  repeat' ((first | refine guardB_of (fun h => ?_) (fun h => ?_) | refine condS_of (fun h => ?_) (fun h => ?_)) <;> simp only [WO, seval, h, hn, exD_eq, hl2])
  all_goals
   refine ARun.ret Tryz.func163 rfl (Left.box ?_)
   rw [← hy]
   (try clear ih)
   (try simp only [dnw] at *)
   simp only [fnw, seval, Same] <;> simp [*]
   skip
set_option linter.defProp false
def c162 := by
 have c := KK_of Tryz.f162 (by conv => lhs; cbv)
 dsimp only [KK, KxP, doO, opO, List.map_cons, List.map_nil, List.toList_toArray] at c
 exact c
theorem b162 : FnIs Tryz.prog 162 Tryz.f162 6 := ⟨Tryz.func162, by kernel_rfl⟩
def c141 := by
 have c := KK_of Tryz.f141 (by conv => lhs; cbv)
 dsimp only [KK, KxP, doO, opO, List.map_cons, List.map_nil, List.toList_toArray] at c
 exact c
theorem b141 : FnIs Tryz.prog 141 Tryz.f141 149 := ⟨Tryz.func141, by kernel_rfl⟩
set_option maxHeartbeats 1000000 in
theorem sized1_ab (x : ExT) (B : List (List V)) (T : List (Nat × Nat)) : AFn Tryz.prog TabI 162 [exV x] ⟨B, T⟩ (Same (.d (.bool (!placeS x))) ⟨B, T⟩) := by
 obtain ⟨N, hn⟩ : ∃ N, B.length = N := ⟨_, rfl⟩
 have h := place_ab x (B ++ [[.d (.int .i64 x.kind), .d (.str x.text), .d (.int .u64 x.int), .d (.int .i64 x.type.kind), .d (.str x.type.name), .d (.sl (x.type.elem.map tyD)), .d (.sl (ssD x.names)), .d (.sl (x.kids.map exD))]]) T
 unfold exV at h ⊢
 refine b162.go 100 rfl fun _ => ?_
 simp only [W, seval, c162, hn]
 refine callS_fn (h) ?_
 rintro _ _ ⟨rfl, rfl⟩
 refine ARun.go 100 ?_
 simp only [W, seval, c162, hn]
 refine ARun.ret Tryz.func162 rfl (Left.box ?_)
 (try clear ih)
 (try simp only [dnw] at *)
 simp only [fnw, seval, Same] <;> simp [*]
 skip
def stB (s : StT) : List V := [.d (.int .i64 s.kind), .d (.sl (ssD s.names)), .d (.int .i64 s.type.kind), .d (.str s.type.name), .d (.sl (s.type.elem.map tyD)), .d (.sl (s.lefts.map exD)), .d (.sl (s.exprs.map exD)), .d (.sl (s.body.map stD)), .d (.sl (s.els.map stD)), .d (.sl (s.cases.map caD))]
def headOf : List ExT → Bool | [x] => headS x | _ => false
def sevenOf : List ExT → Bool | [x] => decide (x.kind = 7) | _ => false
def nameOf : List (List UInt8) → Bool | [x] => identS x | _ => false
def sizedB (k : Int) (ns : List (List UInt8)) (ls es : List ExT) (b3 b4 b5 b6 b7 b8 : Bool) : Bool :=
 if k = 1 then decide (es.length = 0) && nameOf ns && !b5 && !b6 && !b7 && !b8
 else if k = 2 then decide (0 < ls.length) && (decide (es.length = ls.length) || sevenOf es) && ls.all placeS && (!b3 && !b4) && !b6 && !b7 && !b8
 else if k = 3 then (!b3 && !b4) && !b5 && headOf es && !b8
 else if k = 4 then (!b3 && !b4) && !b5 && headOf es && !b7 && !b8
 else if k = 5 then (!b3 && !b4) && !b5 && headOf es && !b6
 else if k = 6 then (!b3 && !b4) && !b5 && decide (0 < es.length) && !b6 && !b7 && !b8
 else false
theorem sizedS_eq (s : StT) : sizedS s = sizedB s.kind s.names s.lefts s.exprs (decide ((0 : Int) < (s.names.length : Int))) (!zeroS s.type) (decide ((0 : Int) < (s.lefts.length : Int))) (decide ((0 : Int) < (s.body.length : Int))) (decide ((0 : Int) < (s.els.length : Int))) (decide ((0 : Int) < (s.cases.length : Int))) := by
 have e (n : Nat) : (!decide ((0 : Int) < (n : Int))) = decide (n = 0) := by
  rw [Bool.eq_iff_iff, Bool.not_eq_true', decide_eq_false_iff_not, decide_eq_true_iff]; omega
 have e2 {α : Type} (l : List α) (q : Decidable (l = [])) : decide (l.length = 0) = @decide (l = []) q := decide_eq_decide.2 List.length_eq_zero_iff
 unfold sizedS sizedB
 simp only [e, Bool.not_not]
 rw [e2 s.names, e2 s.lefts]
 rfl
def lastB (k : Int) (es : List ExT) (b3 b4 b5 b6 b7 b8 b9 : Bool) : Bool :=
 (if k = 3 ∨ k = 4 ∨ k = 5 then b9 && headOf es else b9) && !b3 && !b4 && !b5 && !b6 && !b7 && !b8
set_option maxHeartbeats 4000000 in
theorem sized_ab (s : StT) (B : List (List V)) (T : List (Nat × Nat)) : AFn Tryz.prog TabI 141 [stV s] ⟨B, T⟩ (Same (.d (.bool (sizedS s))) ⟨B, T⟩) := by
 obtain ⟨N, hn⟩ : ∃ N, B.length = N := ⟨_, rfl⟩
 have hs := sizedS_eq s
 unfold stV
 refine b141.go 100 rfl fun hsm => ?_
 simp only [smw] at hsm
 simp only [W, seval, c141, hn]
 obtain ⟨-, -, -, hlf, -⟩ := hsm
 refine ARun.draw (by kernel_rfl) (by kernel_rfl) (lexQ_ok 60 _ _ ?_)
 simp only [W, seval, c141, hn]
 refine ⟨_, zero_ab s.type _ _, ?_⟩
 simp only [W, seval, c141, hn]
 generalize decide ((0 : Int) < (s.names.length : Int)) = b3 at hs ⊢
 generalize (!zeroS s.type) = b4 at hs ⊢
 generalize hb5 : decide ((0 : Int) < (s.lefts.length : Int)) = b5 at hs ⊢
 generalize decide ((0 : Int) < (s.body.length : Int)) = b6 at hs ⊢
 generalize decide ((0 : Int) < (s.els.length : Int)) = b7 at hs ⊢
 generalize decide ((0 : Int) < (s.cases.length : Int)) = b8 at hs ⊢
 generalize sizedS s = res at hs ⊢
 refine ARun.go 9 ?_
 simp only [W, seval, c141, hn]
 refine ARun.join (fun c : Bool × Bool × Bool × Bool × Bool × Bool × Bool => (envS 149 [(1, .ptr N 0), (3, .d (.bool c.1)), (4, .d (.bool c.2.1)), (5, .d (.bool c.2.2.1)), (6, .d (.bool c.2.2.2.1)), (7, .d (.bool c.2.2.2.2.1)), (8, .d (.bool c.2.2.2.2.2.1)), (9, .d (.bool c.2.2.2.2.2.2))], ⟨B ++ [stB s], T⟩)) (fun c => (s.kind = 3 ∨ s.kind = 4 ∨ s.kind = 5 → c.2.2.2.2.2.2 = decide (s.exprs.length = 1)) ∧ lastB s.kind s.exprs c.1 c.2.1 c.2.2.1 c.2.2.2.1 c.2.2.2.2.1 c.2.2.2.2.2.1 c.2.2.2.2.2.2 = res) ?_ ?_
 ·rintro ⟨c3, c4, c5, c6, c7, c8, c9⟩ ⟨hc, hr⟩
  dsimp only [stB] at hc hr ⊢
  rw [← hr]
  clear hs hr
  have hcase : (s.kind = 3 ∨ s.kind = 4 ∨ s.kind = 5) → (∃ x, s.exprs[0]? = some x ∧ c9 = true ∧ headOf s.exprs = headS x) ∨ c9 = false := by
   intro h
   rw [hc h]
   rcases s.exprs with _ | ⟨x, _ | ⟨y, l⟩⟩
   ·exact .inr rfl
   ·exact .inl ⟨x, rfl, rfl, rfl⟩
   ·exact .inr (decide_eq_false (by simp))
  clear hc
  by_cases k345 : s.kind = 3 ∨ s.kind = 4 ∨ s.kind = 5
  ·have hl : lastB s.kind s.exprs c3 c4 c5 c6 c7 c8 c9 = ((c9 && headOf s.exprs) && !c3 && !c4 && !c5 && !c6 && !c7 && !c8) := by rw [lastB, if_pos k345]
   rw [hl]
   rcases hcase k345 with ⟨x, hg, rfl, hh⟩ | rfl
   ·rw [hh]
    have hd := head_ab x
    rcases k345 with k | k | k
    all_goals
     refine ARun.go 200 ?_
     simp only [W, seval, c141, hn, k]
     simp only [W, seval, c141, hg, List.getElem?_map, exD_eq, k]
     refine callS_fn (hd _ _) ?_
     rintro _ _ ⟨rfl, rfl⟩
     generalize headS x = q
     refine ARun.go 200 ?_
     simp only [W, seval, c141, hn, k]
     repeat' ((first | refine guardB_of (fun h => ?_) (fun h => ?_) | refine condS_of (fun h => ?_) (fun h => ?_)) <;> simp only [W, seval, c141, h, hn, k])
     all_goals
      refine ARun.ret Tryz.func141 rfl (Left.box ?_)
      (try clear ih)
      (try simp only [dnw] at *)
      simp only [fnw, seval, Same] <;> simp [*]
      skip
   ·rcases k345 with k | k | k
    all_goals
     refine ARun.go 200 ?_
     simp only [W, seval, c141, hn, k]
     refine ARun.ret Tryz.func141 rfl (Left.box ?_)
     (try clear ih)
     (try simp only [dnw] at *)
     simp only [fnw, seval, Same] <;> simp [*]
     skip
  ·have hl : lastB s.kind s.exprs c3 c4 c5 c6 c7 c8 c9 = (c9 && !c3 && !c4 && !c5 && !c6 && !c7 && !c8) := by rw [lastB, if_neg k345]
   rw [hl]
   have k3 : decide (s.kind = 3) = false := decide_eq_false fun h => k345 (.inl h)
   have k4 : decide (s.kind = 4) = false := decide_eq_false fun h => k345 (.inr (.inl h))
   have k5 : decide (s.kind = 5) = false := decide_eq_false fun h => k345 (.inr (.inr h))
   refine ARun.go 200 ?_
   simp only [W, seval, c141, hn, k3, k4, k5]
   repeat' ((first | refine guardB_of (fun h => ?_) (fun h => ?_) | refine condS_of (fun h => ?_) (fun h => ?_)) <;> simp only [W, seval, c141, h, hn, k3, k4, k5])
   all_goals
    refine ARun.ret Tryz.func141 rfl (Left.box ?_)
    (try clear ih)
    (try simp only [dnw] at *)
    simp only [fnw, seval, Same] <;> simp [*]
    skip
 ·intro K' hK
  have he1 : decide ((s.exprs.length : Int) = 1) = decide (s.exprs.length = 1) := decide_eq_decide.2 (by omega)
  have he6 : decide ((0 : Int) < (s.exprs.length : Int)) = decide (0 < s.exprs.length) := decide_eq_decide.2 (by omega)
  have he0 : decide ((s.exprs.length : Int) = 0) = decide (s.exprs.length = 0) := decide_eq_decide.2 (by omega)
  have hh : (decide (s.exprs.length = 1) && headOf s.exprs) = headOf s.exprs := by rcases s.exprs with _ | ⟨x, _ | ⟨y, l⟩⟩ <;> simp [headOf]
  by_cases k1 : s.kind = 1
  ·have hz : ∀ v : Bool, lastB s.kind s.exprs false false b5 b6 b7 b8 v = (v && !b5 && !b6 && !b7 && !b8) := fun v => by simp [lastB, k1]
   have hs : res = (decide (s.exprs.length = 0) && nameOf s.names && !b5 && !b6 && !b7 && !b8) := by rw [hs, sizedB, if_pos k1]
   rcases hN : s.names with _ | ⟨x, _ | ⟨y, l⟩⟩
   all_goals
    have hl2 : ∀ n : Nat, decide ((n : Int) + 1 + 1 = 1) = false := fun n => decide_eq_false (by omega)
    rw [hN] at hs
    refine ARun.goJ 400 ?_
    simp only [W, seval, c141, hn, k1, hN, he0, hl2]
    repeat' ((first | refine guardB_of (fun h => ?_) (fun h => ?_) | refine condS_of (fun h => ?_) (fun h => ?_)) <;> simp only [W, seval, c141, h, hn, k1, hN, he0, hl2])
    all_goals first
     | (refine hK (false, false, b5, b6, b7, b8, false) ⟨fun h => absurd h (by omega), ?_⟩ _ _ ?_ ?_
        ·rw [hz, hs]
         simp only [nameOf, h, Bool.and_false, Bool.false_and]
        ·skip
         refine Agree.env _ ?_
         simp only [agw, seval]
         skip
        ·simp only [stB, k1, hN])
     | (skip
        refine callS_fn (ident_ab _ _) ?_
        rintro _ _ ⟨rfl, rfl⟩
        refine ARun.goK 200 ?_
        simp only [W, seval, c141, hn, k1, hN, he0, hl2]
        refine hK (false, false, b5, b6, b7, b8, identS x) ⟨fun h => absurd h (by omega), ?_⟩ _ _ ?_ ?_
        ·rw [hz, hs]
         simp only [nameOf, h, Bool.true_and]
        ·skip
         refine Agree.env _ ?_
         simp only [agw, seval]
         skip
        ·simp only [stB, k1, hN])
     | (refine hK (false, false, b5, b6, b7, b8, false) ⟨fun h => absurd h (by omega), ?_⟩ _ _ ?_ ?_
        ·fail
        ·skip
         refine Agree.env _ ?_
         simp only [agw, seval]
         skip
        ·simp only [stB, k1, hN])
  by_cases k2 : s.kind = 2
  ·have hz : ∀ v : Bool, lastB s.kind s.exprs b3 b4 false b6 b7 b8 v = (v && !b3 && !b4 && !b6 && !b7 && !b8) := fun v => by simp [lastB, k2]
   have hs : res = (decide (0 < s.lefts.length) && (decide (s.exprs.length = s.lefts.length) || sevenOf s.exprs) && s.lefts.all placeS && (!b3 && !b4) && !b6 && !b7 && !b8) := by rw [hs, sizedB, if_neg k1, if_pos k2]
   have hb5' : decide (0 < s.lefts.length) = b5 := hb5 ▸ decide_eq_decide.2 (by omega)
   obtain ⟨be, hbe⟩ : ∃ b, decide ((s.exprs.length : Int) = (s.lefts.length : Int)) = b := ⟨_, rfl⟩
   have hbe' : decide (s.exprs.length = s.lefts.length) = be := hbe ▸ decide_eq_decide.2 (by omega)
   obtain ⟨b7', hsv⟩ : ∃ b, sevenOf s.exprs = b := ⟨_, rfl⟩
   rw [hb5', hbe', hsv] at hs
   have hw : ∀ v : Bool, v = (b5 && (be || b7') && s.lefts.all placeS) → lastB s.kind s.exprs b3 b4 false b6 b7 b8 v = res := fun v hv => by
    rw [hz, hs, hv]
    generalize s.lefts.all placeS = q
    cases b3 <;> cases b4 <;> cases b5 <;> cases be <;> cases b7' <;> cases q <;> cases b6 <;> cases b7 <;> cases b8 <;> rfl
   clear hz hs
   have hcase : (∃ x, s.exprs[0]? = some x ∧ decide ((s.exprs.length : Int) = 1) = true ∧ decide (x.kind = 7) = b7') ∨ (decide ((s.exprs.length : Int) = 1) = false ∧ b7' = false) := by
    rw [← hsv]
    rcases s.exprs with _ | ⟨x, _ | ⟨y, l⟩⟩
    ·exact .inr ⟨by decide, rfl⟩
    ·exact .inl ⟨x, rfl, by simp, rfl⟩
    ·exact .inr ⟨decide_eq_false (by simp; omega), rfl⟩
   rcases hcase with ⟨x, hg, hg1, hg2⟩ | ⟨hg1, hg2⟩
   ·refine ARun.goJ 400 ?_
    simp only [W, seval, c141, hn, k2, hb5, hbe, hg, hg1, hg2, List.getElem?_map, exD_eq]
    repeat' ((first | refine guardB_of (fun h => ?_) (fun h => ?_) | refine condS_of (fun h => ?_) (fun h => ?_)) <;> simp only [W, seval, c141, h, hn, k2, hb5, hbe, hg, hg1, hg2, List.getElem?_map, exD_eq])
    all_goals first
     | (refine hK (b3, b4, false, b6, b7, b8, false) ⟨fun h => absurd h (by omega), hw _ (by simp [*])⟩ _ _ ?_ ?_
        ·skip
         refine Agree.env _ ?_
         simp only [agw, seval]
         skip
        ·simp only [stB, k2])
     | (refine callS_fn (containsFunc_Expr 162 [] [] (fun _ : Unit => _) (fun x s => (!placeS x, s)) (fun _ _ => ⟨rfl, rfl⟩) s.lefts hlf () (good_of s.lefts fun x hm => sized1_ab x _ T)) ?_
        rintro _ _ ⟨rfl, rfl⟩
        rw [anyF_unit, any_not]
        refine ARun.goK 200 ?_
        simp only [W, seval, c141, hn, k2, Bool.not_not]
        refine hK (b3, b4, false, b6, b7, b8, s.lefts.all placeS) ⟨fun h => absurd h (by omega), hw _ (by simp [*])⟩ _ _ ?_ ?_
        ·skip
         refine Agree.env _ ?_
         simp only [agw, seval]
         skip
        ·simp only [stB, k2])
     | fail
   ·refine ARun.goJ 400 ?_
    simp only [W, seval, c141, hn, k2, hb5, hbe, hg1]
    repeat' ((first | refine guardB_of (fun h => ?_) (fun h => ?_) | refine condS_of (fun h => ?_) (fun h => ?_)) <;> simp only [W, seval, c141, h, hn, k2, hb5, hbe, hg1])
    all_goals first
     | (refine hK (b3, b4, false, b6, b7, b8, false) ⟨fun h => absurd h (by omega), hw _ (by simp [*])⟩ _ _ ?_ ?_
        ·skip
         refine Agree.env _ ?_
         simp only [agw, seval]
         skip
        ·simp only [stB, k2])
     | (refine callS_fn (containsFunc_Expr 162 [] [] (fun _ : Unit => _) (fun x s => (!placeS x, s)) (fun _ _ => ⟨rfl, rfl⟩) s.lefts hlf () (good_of s.lefts fun x hm => sized1_ab x _ T)) ?_
        rintro _ _ ⟨rfl, rfl⟩
        rw [anyF_unit, any_not]
        refine ARun.goK 200 ?_
        simp only [W, seval, c141, hn, k2, Bool.not_not]
        refine hK (b3, b4, false, b6, b7, b8, s.lefts.all placeS) ⟨fun h => absurd h (by omega), hw _ (by simp [*])⟩ _ _ ?_ ?_
        ·skip
         refine Agree.env _ ?_
         simp only [agw, seval]
         skip
        ·simp only [stB, k2])
     | fail
  by_cases k3 : s.kind = 3
  ·have hs : res = ((!b3 && !b4) && !b5 && headOf s.exprs && !b8) := by rw [hs, sizedB, if_neg k1, if_neg k2, if_pos k3]
   refine ARun.goJ 400 ?_
   simp only [W, seval, c141, hn, k3, he1]
   refine hK (b3, b4, b5, false, false, b8, decide (s.exprs.length = 1)) ⟨fun _ => rfl, ?_⟩ _ _ ?_ ?_
   ·rw [hs, lastB, if_pos (.inl k3), hh]
    generalize headOf s.exprs = hd
    cases b3 <;> cases b4 <;> cases b5 <;> cases b8 <;> cases hd <;> rfl
   ·skip
    refine Agree.env _ ?_
    simp only [agw, seval]
    skip
   ·simp only [stB, k3]
  by_cases k4 : s.kind = 4
  ·have hs : res = ((!b3 && !b4) && !b5 && headOf s.exprs && !b7 && !b8) := by rw [hs, sizedB, if_neg k1, if_neg k2, if_neg k3, if_pos k4]
   refine ARun.goJ 400 ?_
   simp only [W, seval, c141, hn, k4, he1]
   refine hK (b3, b4, b5, false, b7, b8, decide (s.exprs.length = 1)) ⟨fun _ => rfl, ?_⟩ _ _ ?_ ?_
   ·rw [hs, lastB, if_pos (.inr (.inl k4)), hh]
    generalize headOf s.exprs = hd
    cases b3 <;> cases b4 <;> cases b5 <;> cases b7 <;> cases b8 <;> cases hd <;> rfl
   ·skip
    refine Agree.env _ ?_
    simp only [agw, seval]
    skip
   ·simp only [stB, k4]
  by_cases k5 : s.kind = 5
  ·have hs : res = ((!b3 && !b4) && !b5 && headOf s.exprs && !b6) := by rw [hs, sizedB, if_neg k1, if_neg k2, if_neg k3, if_neg k4, if_pos k5]
   refine ARun.goJ 400 ?_
   simp only [W, seval, c141, hn, k5, he1]
   refine hK (b3, b4, b5, b6, false, false, decide (s.exprs.length = 1)) ⟨fun _ => rfl, ?_⟩ _ _ ?_ ?_
   ·rw [hs, lastB, if_pos (.inr (.inr k5)), hh]
    generalize headOf s.exprs = hd
    cases b3 <;> cases b4 <;> cases b5 <;> cases b6 <;> cases hd <;> rfl
   ·skip
    refine Agree.env _ ?_
    simp only [agw, seval]
    skip
   ·simp only [stB, k5]
  by_cases k6 : s.kind = 6
  ·have hs : res = ((!b3 && !b4) && !b5 && decide (0 < s.exprs.length) && !b6 && !b7 && !b8) := by rw [hs, sizedB, if_neg k1, if_neg k2, if_neg k3, if_neg k4, if_neg k5, if_pos k6]
   refine ARun.goJ 400 ?_
   simp only [W, seval, c141, hn, k6, he6]
   refine hK (b3, b4, b5, b6, b7, b8, decide (0 < s.exprs.length)) ⟨fun h => absurd h (by omega), ?_⟩ _ _ ?_ ?_
   ·rw [hs, lastB, if_neg (by omega)]
    generalize decide (0 < s.exprs.length) = hd
    cases b3 <;> cases b4 <;> cases b5 <;> cases b6 <;> cases b7 <;> cases b8 <;> cases hd <;> rfl
   ·skip
    refine Agree.env _ ?_
    simp only [agw, seval]
    skip
   ·simp only [stB, k6]
  have hs : res = false := by rw [hs, sizedB, if_neg k1, if_neg k2, if_neg k3, if_neg k4, if_neg k5, if_neg k6]
  have e1 := decide_eq_false k1
  have e2 := decide_eq_false k2
  have e3 := decide_eq_false k3
  have e4 := decide_eq_false k4
  have e5 := decide_eq_false k5
  have e6 := decide_eq_false k6
  refine ARun.goJ 400 ?_
  simp only [W, seval, c141, hn, e1, e2, e3, e4, e5, e6]
  refine ARun.ret Tryz.func141 rfl (Left.box ?_)
  rw [hs]
  (try clear ih)
  (try simp only [dnw] at *)
  simp only [fnw, seval, Same] <;> simp [*]
  skip
set_option maxHeartbeats 1000000 in
theorem typ_ab0 (k : Int) (n : List UInt8) (es : List TyT) (he : es.length ≠ 1) (c : Nat) (d p : Int) (B : List (List V)) (T : List (Nat × Nat)) (h : B[c]? = some [.d (.int .i64 p)]) (hp : 0 ≤ p ∧ p ≤ 60000) :
 AFn Tryz.prog TabI 76 [.ptr c 0, tyV (.mk k n es), .d (.int .i64 d)] ⟨B, T⟩ (Same (.d (.bool (tyS identS (.mk k n es) d p).1)) ⟨B.set c [.d (.int .i64 (tyS identS (.mk k n es) d p).2)], T⟩) := by
 obtain ⟨N, hn⟩ : ∃ N, B.length = N := ⟨_, rfl⟩
 have hc := (List.getElem?_eq_some_iff.1 h).1
 have hi : c < N := by omega
 have he' : decide ((es.length : Int) = 1) = false := decide_eq_false (by omega)
 have hr := tyRest_no identS k n d p es (.inr he)
 have hne : es ≠ [] ∨ es = [] := by by_cases h : es = [] <;> simp [h]
 simp only [tyV, TyT.kind, TyT.name, TyT.elem]
 refine AFn.body Tryz.func76 rfl (by kernel_rfl) ?_
 refine ARun.go 200 ?_
 simp only [Tryz.f76, WO, seval, hn, hi]
 refine callS_fn (part_ab c d p _ _ (by rw [bx_old hc]; exact h) hp) ?_
 rintro _ _ ⟨rfl, rfl⟩
 refine ARun.go 200 ?_
 simp only [WO, seval, hn, hi, he']
 cases hk : partOk d p
 ·simp only [WO, seval, hn, hi, hk, Bool.not_false]
  refine ARun.ret Tryz.func76 rfl (Left.set (by rfl) ?_)
  have hS : tyS identS (.mk k n es) d p = (false, p + 1) := by unfold tyS; rw [if_pos hk]
  rw [hS]
  exact ⟨rfl, rfl⟩
 ·have hS := tyS_go identS k n es d p (by rw [hk]; decide)
  rw [hr] at hS
  rw [hS]
  simp only [WO, seval, hn, hi, hk, Bool.not_true, he']
  repeat' ((first | refine guardB_of (fun h => ?_) (fun h => ?_) | refine condS_of (fun h => ?_) (fun h => ?_)) <;> simp only [WO, seval, h, hn, hi, he'])
  all_goals first
   | (refine ARun.ret Tryz.func76 rfl (Left.set (by rfl) ?_)
      (try clear ih)
      (try simp only [dnw] at *)
      simp only [fnw, seval, Same] <;> simp [*]
      skip)
   | (skip
      refine callS_fn (ident_ab n _) ?_
      rintro _ _ ⟨rfl, rfl⟩
      refine ARun.go 200 ?_
      simp only [WO, seval, hn, hi]
      repeat' ((first | refine guardB_of (fun h => ?_) (fun h => ?_) | refine condS_of (fun h => ?_) (fun h => ?_)) <;> simp only [WO, seval, h, hn, hi])
      all_goals
       refine ARun.ret Tryz.func76 rfl (Left.set (by rfl) ?_)
       (try clear ih)
       (try simp only [dnw] at *)
       simp only [fnw, seval, Same] <;> simp [*]
       skip)
set_option maxHeartbeats 2000000 in
theorem typ_ab : ∀ (t : TyT) (c : Nat) (d p : Int) (B : List (List V)) (T : List (Nat × Nat)), B[c]? = some [.d (.int .i64 p)] → 0 ≤ p ∧ p ≤ 60000 → 0 ≤ d ∧ d ≤ 61 →
 AFn Tryz.prog TabI 76 [.ptr c 0, tyV t, .d (.int .i64 d)] ⟨B, T⟩ (Same (.d (.bool (tyS identS t d p).1)) ⟨B.set c [.d (.int .i64 (tyS identS t d p).2)], T⟩)
 | .mk k n [], c, d, p, B, T, h, hp, hd => typ_ab0 k n [] (by simp) c d p B T h hp
 | .mk k n (e :: e2 :: es), c, d, p, B, T, h, hp, hd => typ_ab0 k n _ (by simp) c d p B T h hp
 | .mk k n [e], c, d, p, B, T, h, hp, hd => by
  obtain ⟨N, hn⟩ : ∃ N, B.length = N := ⟨_, rfl⟩
  have hc := (List.getElem?_eq_some_iff.1 h).1
  have hi : c < N := by omega
  have hw := wrap_in (d + 1) (by omega)
  have ih := typ_ab e c (d + 1) (p + 1)
  simp only [tyV, TyT.kind, TyT.name, TyT.elem]
  refine AFn.body Tryz.func76 rfl (by kernel_rfl) ?_
  refine ARun.go 200 ?_
  simp only [Tryz.f76, WO, seval, hn, hi, tyD_eq]
  refine callS_fn (part_ab c d p _ _ (by rw [bx_old hc]; exact h) hp) ?_
  rintro _ _ ⟨rfl, rfl⟩
  refine ARun.go 200 ?_
  simp only [WO, seval, hn, hi, hw, tyD_eq]
  cases hk : partOk d p
  ·simp only [WO, seval, hn, hi, hk, Bool.not_false]
   refine ARun.ret Tryz.func76 rfl (Left.set (by rfl) ?_)
   have hS : tyS identS (.mk k n [e]) d p = (false, p + 1) := by unfold tyS; rw [if_pos hk]
   rw [hS]
   exact ⟨rfl, rfl⟩
  ·have hS := tyS_go identS k n [e] d p (by rw [hk]; decide)
   have hpo : p + 1 ≤ 60000 ∧ d ≤ 60 := by
    unfold partOk at hk
    rw [Bool.and_eq_true, decide_eq_true_iff, decide_eq_true_iff] at hk
    exact hk
   simp only [tyRest] at hS
   rw [hS]
   simp only [WO, seval, hn, hi, hk, Bool.not_true, hw, tyD_eq]
   repeat' ((first | refine guardB_of (fun h => ?_) (fun h => ?_) | refine condS_of (fun h => ?_) (fun h => ?_)) <;> simp only [WO, seval, h, hn, hi, hw, tyD_eq])
   all_goals first
    | (refine ARun.ret Tryz.func76 rfl (Left.set (by rfl) ?_)
       (try clear ih)
       (try simp only [dnw] at *)
       simp only [fnw, seval, Same] <;> simp [*]
       skip)
    | (skip
       refine callS_fn (ident_ab n _) ?_
       rintro _ _ ⟨rfl, rfl⟩
       refine ARun.go 200 ?_
       simp only [WO, seval, hn, hi]
       repeat' ((first | refine guardB_of (fun h => ?_) (fun h => ?_) | refine condS_of (fun h => ?_) (fun h => ?_)) <;> simp only [WO, seval, h, hn, hi])
       all_goals
        refine ARun.ret Tryz.func76 rfl (Left.set (by rfl) ?_)
        (try clear ih)
        (try simp only [dnw] at *)
        simp only [fnw, seval, Same] <;> simp [*]
        skip)
    | (skip
       refine callS_fn (ih _ T ?_ (by omega) (by omega)) ?_
       ·rw [bx_old (by simp; omega)]; exact bx_get hc
       rintro _ _ ⟨rfl, rfl⟩
       refine ARun.go 200 ?_
       simp only [WO, seval, hn, hi]
       repeat' ((first | refine guardB_of (fun h => ?_) (fun h => ?_) | refine condS_of (fun h => ?_) (fun h => ?_)) <;> simp only [WO, seval, h, hn, hi])
       all_goals
        refine ARun.ret Tryz.func76 rfl (Left.set (by rfl) ?_)
        (try clear ih)
        (try simp only [dnw] at *)
        simp only [fnw, seval, Same] <;> simp [*]
        skip)
set_option maxHeartbeats 4000000 in
theorem bare_ab (x : ExT) (c : Nat) (d p : Int) (B : List (List V)) (T : List (Nat × Nat)) (hB : B[c]? = some [.d (.int .i64 p)]) (hp : 0 ≤ p ∧ p ≤ 60000) (hd : 0 ≤ d ∧ d ≤ 60) :
 AFn Tryz.prog TabI 100 [.ptr c 0, exV x, .d (.int .i64 d)] ⟨B, T⟩ (Same (.d (.bool (bareS x d p).1)) ⟨B.set c [.d (.int .i64 (bareS x d p).2)], T⟩) := by
 obtain ⟨N, hn⟩ : ∃ N, B.length = N := ⟨_, rfl⟩
 have hc := (List.getElem?_eq_some_iff.1 hB).1
 have hi : c < N := by omega
 have hw := wrap_in (d + 1) (by omega)
 cases x with
 | mk k t i ty ns ks =>
 simp only [exV, ExT.kind, ExT.text, ExT.int, ExT.type, ExT.names, ExT.kids]
 refine AFn.bodyS Tryz.func100 rfl (by kernel_rfl) fun hsm => ?_
 simp only [smL, sm, exV, stV, tyV, caV, paV, suV, fuV, prV, Bool.and_eq_true, decide_eq_true_eq, and_true, true_and, List.length_map, ssD_length] at hsm
 refine ARun.go 200 ?_
 simp only [Tryz.f100, WO, seval, hn, hi]
 obtain ⟨bn, hz2⟩ : ∃ b, ∀ q : Decidable (0 < ns.length), @decide (0 < ns.length) q = b := ⟨decide (0 < ns.length), fun _ => decide_eq_decide.2 Iff.rfl⟩
 have hz : decide ((0 : Int) < (ns.length : Int)) = bn := (decide_eq_decide.2 (by omega)).trans (hz2 inferInstance)
 obtain ⟨-, -, -, hs4, -⟩ := hsm
 obtain ⟨bl, hz3⟩ : ∃ b, ∀ q : Decidable (ns.length = ks.length), @decide (ns.length = ks.length) q = b := ⟨decide (ns.length = ks.length), fun _ => decide_eq_decide.2 Iff.rfl⟩
 have hz4 : decide ((ns.length : Int) = (ks.length : Int)) = bl := (decide_eq_decide.2 (by omega)).trans (hz3 inferInstance)
 refine ARun.draw (by kernel_rfl) (by kernel_rfl) (lexQ_ok 60 _ _ ?_)
 simp only [WO, seval, hn, hi, hz]
 refine ⟨_, zero_ab ty _ _, ?_⟩
 simp only [WO, seval, hn, hi, hz]
 have hbs : B.set c [.d (.int .i64 p)] = B := by
  obtain ⟨_, h⟩ := List.getElem?_eq_some_iff.1 hB
  rw [← h, List.set_getElem_self]
 refine ARun.go 400 ?_
 simp only [WO, seval, hn, hi, hw, hz]
 repeat' ((first | refine guardB_of (fun h => ?_) (fun h => ?_) | refine condS_of (fun h => ?_) (fun h => ?_)) <;> simp only [WO, seval, h, hn, hi, hw])
 all_goals first
  | (skip
     refine callS_fn (ident_ab _ _) ?_
     rintro _ _ ⟨rfl, rfl⟩
     refine ARun.go 200 ?_
     simp only [WO, seval, hn, hi]
     repeat' ((first | refine guardB_of (fun h => ?_) (fun h => ?_) | refine condS_of (fun h => ?_) (fun h => ?_)) <;> simp only [WO, seval, h, hn, hi])
     all_goals
      refine ARun.ret Tryz.func100 rfl (Left.box ?_)
      simp only [bareS, bareT, ExT.kind, ExT.text, ExT.int, ExT.type, ExT.names, ExT.kids, hz2]
      (try clear ih)
      (try simp only [dnw] at *)
      simp only [fnw, seval, Same] <;> simp [*]
      (try exact (hz2 _).symm)
      skip)
  | (skip
     refine callS_fn (rank_ab _ _ _) ?_
     rintro _ _ ⟨rfl, rfl⟩
     refine ARun.go 200 ?_
     simp only [WO, seval, hn, hi]
     repeat' ((first | refine guardB_of (fun h => ?_) (fun h => ?_) | refine condS_of (fun h => ?_) (fun h => ?_)) <;> simp only [WO, seval, h, hn, hi])
     all_goals
      refine ARun.ret Tryz.func100 rfl (Left.box ?_)
      simp only [bareS, bareT, ExT.kind, ExT.text, ExT.int, ExT.type, ExT.names, ExT.kids, hz2]
      (try clear ih)
      (try simp only [dnw] at *)
      simp only [fnw, seval, Same] <;> simp [*]
      (try exact (hz2 _).symm)
      skip)
  | (skip
     refine ARun.draw (by kernel_rfl) (by kernel_rfl) (lexQ_ok 60 _ _ ?_)
     simp only [WO, seval, hn, hi]
     refine ARun.go 200 ?_
     simp only [WO, seval, hn, hi]
     repeat' ((first | refine guardB_of (fun h => ?_) (fun h => ?_) | refine condS_of (fun h => ?_) (fun h => ?_)) <;> simp only [WO, seval, h, hn, hi])
     all_goals
      refine ARun.ret Tryz.func100 rfl (Left.box ?_)
      simp only [bareS, bareT, ExT.kind, ExT.text, ExT.int, ExT.type, ExT.names, ExT.kids, hz2]
      (try clear ih)
      (try simp only [dnw] at *)
      simp only [fnw, seval, Same] <;> simp [*]
      (try exact (hz2 _).symm)
      skip)
  | (refine ARun.ret Tryz.func100 rfl (Left.box ?_)
     simp only [bareS, bareT, ExT.kind, ExT.text, ExT.int, ExT.type, ExT.names, ExT.kids, hz2]
     (try clear ih)
     (try simp only [dnw] at *)
     simp only [fnw, seval, Same] <;> simp [*]
     (try exact (hz2 _).symm)
     skip)
  | (refine callS_fn (typ_ab ty c (d + 1) p _ T (by rw [bx_old (by omega)]; exact hB) hp (by omega)) ?_
     rintro _ _ ⟨rfl, rfl⟩
     obtain ⟨⟨b, q⟩, hty⟩ : ∃ r, tyS identS ty (d + 1) p = r := ⟨_, rfl⟩
     simp only [WO, seval, hty]
     refine ARun.go 300 ?_
     simp only [WO, seval, hn, hi, hz4]
     repeat' ((first | refine guardB_of (fun h => ?_) (fun h => ?_) | refine condS_of (fun h => ?_) (fun h => ?_)) <;> simp only [WO, seval, h, hn, hi, hz4])
     all_goals first
      | (refine ARun.ret Tryz.func100 rfl (Left.set (by rfl) ?_)
         simp only [bareS, bareT, ExT.kind, ExT.text, ExT.int, ExT.type, ExT.names, ExT.kids, hz2, hz3, hty]
         (try clear ih)
         (try simp only [dnw] at *)
         simp only [fnw, seval, Same] <;> simp [*]
         (try exact (hz2 _).symm)
         (try (intro e; have e2 := (hz3 _).symm.trans e; simp_all))
         skip)
      | (skip
         refine callS_fn (different_ab ns hs4 _ _) ?_
         rintro _ _ ⟨rfl, rfl⟩
         refine ARun.go 300 ?_
         simp only [WO, seval, hn, hi, hz4]
         repeat' ((first | refine guardB_of (fun h => ?_) (fun h => ?_) | refine condS_of (fun h => ?_) (fun h => ?_)) <;> simp only [WO, seval, h, hn, hi, hz4])
         all_goals
          refine ARun.ret Tryz.func100 rfl (Left.set (by rfl) ?_)
          simp only [bareS, bareT, ExT.kind, ExT.text, ExT.int, ExT.type, ExT.names, ExT.kids, hz2, hz3, hty]
          (try clear ih)
          (try simp only [dnw] at *)
          simp only [fnw, seval, Same] <;> simp [*]
          (try exact (hz2 _).symm)
          (try exact (hz3 _).trans (by assumption))
          (try (intro e; have e2 := (hz3 _).symm.trans e; simp_all))
          skip))
def ExprOk (x : ExT) : Prop := ∀ (c : Nat) (d p : Int) (B : List (List V)) (T : List (Nat × Nat)), B[c]? = some [.d (.int .i64 p)] → 0 ≤ p ∧ p ≤ 60000 → 0 ≤ d ∧ d ≤ 61 →
 AFn Tryz.prog TabI 69 [.ptr c 0, exV x, .d (.int .i64 d)] ⟨B, T⟩ (Same (.d (.bool (exS x d p).1)) ⟨B.set c [.d (.int .i64 (exS x d p).2)], T⟩)
set_option maxHeartbeats 2000000 in
theorem exprs_ab (l : List ExT) (hx : ∀ x ∈ l, ExprOk x) (c : Nat) (d m p : Int) (B : List (List V)) (T : List (Nat × Nat)) (hB : B[c]? = some [.d (.int .i64 p)]) (hp : 0 ≤ p ∧ p ≤ 60000) (hd : 0 ≤ d ∧ d ≤ 61) :
 AFn Tryz.prog TabI 101 [.ptr c 0, .d (.sl (l.map exD)), .d (.int .i64 d), .d (.int .i64 m)] ⟨B, T⟩ (Same (.d (.bool ((exsS l d p).1 && decide ((l.length : Int) ≤ m)))) ⟨B.set c [.d (.int .i64 (exsS l d p).2)], T⟩) := by
 obtain ⟨N, hn⟩ : ∃ N, B.length = N := ⟨_, rfl⟩
 have hc := (List.getElem?_eq_some_iff.1 hB).1
 have hi : c < N := by omega
 have hbs : B.set c [.d (.int .i64 p)] = B := by
  obtain ⟨_, h⟩ := List.getElem?_eq_some_iff.1 hB
  rw [← h, List.set_getElem_self]
 refine AFn.bodyS Tryz.func101 rfl (by kernel_rfl) fun hsm => ?_
 simp only [smL, sm, exV, stV, tyV, caV, paV, suV, fuV, prV, Bool.and_eq_true, decide_eq_true_eq, and_true, true_and, List.length_map, ssD_length] at hsm
 refine ARun.go 100 ?_
 simp only [Tryz.f101, WO, seval, hn, hi]
 refine ARun.fits fun hf => ?_
 refine ARun.loopB (fun a : Nat × Int => (envOf 30 [(0, .ptr c 0), (1, .d (.sl (l.map exD))), (2, .d (.int .i64 d)), (3, .d (.int .i64 m)), (8, .d (.bool false)), (9, .func 69 [.ptr c 0] []), (14, .d (.sl (l.map exD))), (15, .d (.int .i64 l.length)), (16, .d (.int .i64 a.1))], ⟨B.set c [.d (.int .i64 a.2)], T⟩)) (fun a => a.1 ≤ l.length ∧ (0 ≤ a.2 ∧ a.2 ≤ 60000) ∧ exsS l d p = exsS (l.drop a.1) d a.2) (fun a => l.length - a.1) (0, p) ⟨by omega, hp, rfl⟩ ?_ (by rw [hbs]) ?_
 ·simp only [envOf, List.replicate_succ, List.replicate_zero, List.foldl_cons, List.foldl_nil, List.set_cons_zero, List.set_cons_succ, EnvW, eq_self, or_true, true_or, and_self, Int.natCast_add, Int.natCast_one, Int.natCast_zero]
 rintro ⟨i, q⟩ ⟨h1, h2, h3⟩ ih
 dsimp only at h1 h2 h3 ih ⊢
 by_cases hlt : i < l.length
 ·have hw := wrap_in ((i : Int) + 1) (by omega)
  have hg := List.getElem?_eq_getElem hlt
  rw [exsS_step l i hlt] at h3
  have hlt' : decide ((i : Int) < (l.length : Int)) = true := decide_eq_true (by omega)
  refine ARun.go 100 ?_
  simp only [WO, seval, hn, hi, List.getElem?_map, hg, hlt', exD_eq]
  refine callS_of (hx l[i] (List.getElem_mem hlt) c d q _ T (by rw [bx_old (by simp; omega)]; exact bx_get hc) h2 hd) ?_
  rintro _ _ ⟨rfl, rfl⟩
  have hok := exS_ok l[i] d q
  obtain ⟨⟨b, r⟩, he⟩ : ∃ r, exS l[i] d q = r := ⟨_, rfl⟩
  rw [he] at h3 hok
  dsimp only at hok
  refine ARun.go 100 ?_
  simp only [WO, seval, hn, hi, he]
  cases b
  ·simp only [WO, seval, hn, hi]
   refine ARun.ret Tryz.func101 rfl (Left.set (by rfl) ?_)
   rw [h3, if_pos rfl]
   exact ⟨rfl, rfl⟩
  ·have hok := hok rfl
   simp only [WO, seval, hn, hi, hw]
   refine ih (i + 1, r) ⟨hlt, by dsimp only; omega, by rw [h3]; rfl⟩ (by dsimp only; omega) _ _ _ _ rfl ⟨by simp; omega, Nat.le_refl _⟩ (hf.set rfl) ?_
   simp only [envOf, List.replicate_succ, List.replicate_zero, List.foldl_cons, List.foldl_nil, List.set_cons_zero, List.set_cons_succ, EnvLe, fit, fitL, eq_self, or_true, true_or, and_self, true_and, and_true, Bool.and_true, Bool.true_and, Bool.and_self, decide_true, List.length_set, Int.natCast_add, Int.natCast_one, Int.natCast_zero, hn, hi]
 ·have hlt' : decide ((i : Int) < (l.length : Int)) = false := decide_eq_false (by omega)
  refine ARun.go 100 ?_
  simp only [WO, seval, hlt']
  refine ARun.ret Tryz.func101 rfl (Left.set0 rfl ?_)
  rw [List.drop_eq_nil_of_le (by omega), exsS] at h3
  rw [h3]
  exact ⟨rfl, rfl⟩
theorem partOk_in {d p : Int} (h : partOk d p = true) : p + 1 ≤ 60000 ∧ d ≤ 60 := by
 unfold partOk at h
 rw [Bool.and_eq_true, decide_eq_true_iff, decide_eq_true_iff] at h
 exact h
set_option maxHeartbeats 4000000 in
theorem expr_step (k : Int) (t : List UInt8) (i : Int) (ty : TyT) (ns : List (List UInt8)) (ks : List ExT) (hx : ∀ x ∈ ks, ExprOk x) : ExprOk (.mk k t i ty ns ks) := by
 intro c d p B T hB hp hd
 obtain ⟨N, hn⟩ : ∃ N, B.length = N := ⟨_, rfl⟩
 have hc := (List.getElem?_eq_some_iff.1 hB).1
 have hi : c < N := by omega
 have hw := wrap_in (d + 1) (by omega)
 obtain ⟨mo, hmo⟩ : ∃ m, manyS k = m := ⟨_, rfl⟩
 have hS : exS (.mk k t i ty ns ks) d p = if partOk d p = false then (false, p + 1)
  else if mostS k < (ks.length : Int) ∨ mo = -2 ∨ (0 ≤ mo ∧ (ks.length : Int) ≠ mo) then (false, p + 1)
  else if (bareS (.mk k t i ty ns ks) d (p + 1)).1 = false then (false, (bareS (.mk k t i ty ns ks) d (p + 1)).2)
  else exsS ks (d + 1) (bareS (.mk k t i ty ns ks) d (p + 1)).2 := by rw [exS, hmo]
 have hpart := part_ab c d p (B ++ [[.d (.int .i64 k), .d (.str t), .d (.int .u64 i), .d (.int .i64 ty.kind), .d (.str ty.name), .d (.sl (ty.elem.map tyD)), .d (.sl (ssD ns)), .d (.sl (ks.map exD))]]) T (by rw [bx_old hc]; exact hB) hp
 have hbare := bare_ab (.mk k t i ty ns ks) c d (p + 1)
 simp only [exV, ExT.kind, ExT.text, ExT.int, ExT.type, ExT.names, ExT.kids] at hbare ⊢
 refine AFn.body Tryz.func69 rfl (by kernel_rfl) ?_
 refine ARun.go 100 ?_
 simp only [Tryz.f69, WO, seval, hn, hi]
 refine callS_fn (many_ab k _ _) ?_
 rintro _ _ ⟨rfl, rfl⟩
 refine ARun.go 100 ?_
 simp only [WO, seval, hn, hi, hmo]
 refine condS_of (fun h15 => ?_) (fun h15 => ?_)
 all_goals
  have hmost : mostS k = if k = 15 then 30000 else 40 := rfl
  simp only [WO, seval, h15, hn, hi, hmo]
  refine callS_fn hpart ?_
  rintro _ _ ⟨rfl, rfl⟩
  first
   | have hm : mostS k = 30000 := if_pos (of_decide_eq_true h15)
   | have hm : mostS k = 40 := if_neg (of_decide_eq_false h15)
  cases hk : partOk d p
  ·rw [if_pos hk] at hS
   refine ARun.go 200 ?_
   simp only [WO, seval, hn, hi, hmo, hw, hk]
   refine ARun.ret Tryz.func69 rfl (Left.set (by rfl) ?_)
   rw [hS]
   exact ⟨rfl, rfl⟩
  ·rw [if_neg (by rw [hk]; decide), hm] at hS
   have hpo := partOk_in hk
   have hbare := hbare (B.set c [.d (.int .i64 (p + 1))] ++ [[.d (.int .i64 k), .d (.str t), .d (.int .u64 i), .d (.int .i64 ty.kind), .d (.str ty.name), .d (.sl (ty.elem.map tyD)), .d (.sl (ssD ns)), .d (.sl (ks.map exD))]]) T (by rw [bx_old (by simp; omega)]; exact bx_get hc) ⟨by omega, by omega⟩ ⟨by omega, by omega⟩
   have hbo := bareS_ok (.mk k t i ty ns ks) d (p + 1) hpo.1
   obtain ⟨⟨bb, bq⟩, hb⟩ : ∃ r, bareS (.mk k t i ty ns ks) d (p + 1) = r := ⟨_, rfl⟩
   rw [hb] at hbare hS hbo
   dsimp only at hbo
   refine ARun.go 200 ?_
   simp only [WO, seval, hn, hi, hmo, hw, hk]
   repeat' ((first | refine guardB_of (fun h => ?_) (fun h => ?_) | refine condS_of (fun h => ?_) (fun h => ?_)) <;> simp only [WO, seval, h, hn, hi, hmo, hw])
   all_goals first
    | (refine ARun.ret Tryz.func69 rfl (Left.set (by rfl) ?_)
       rw [hS]
       clear hS hbare
       (try clear ih)
       (try simp only [dnw] at *)
       simp only [fnw, seval, Same] <;> simp [*]
       skip)
    | (rw [if_neg (by (simp only [decide_eq_true_eq, decide_eq_false_iff_not, Bool.not_eq_false', Bool.not_eq_true'] at *); omega)] at hS
       refine callS_fn hbare ?_
       rintro _ _ ⟨rfl, rfl⟩
       refine ARun.go 200 ?_
       simp only [WO, seval, hn, hi, hmo, hw]
       cases bb
       ·simp only [WO, seval, hn, hi, hmo, hw]
        refine ARun.ret Tryz.func69 rfl (Left.set (by rfl) ?_)
        rw [hS, if_pos rfl]
        exact ⟨rfl, rfl⟩
       ·have hbo := hbo rfl
        simp only [WO, seval, hn, hi, hmo, hw]
        refine callS_fn (exprs_ab ks hx c (d + 1) _ bq _ T (by rw [bx_old (by simp; omega)]; exact bx_get hc) (by omega) (by omega)) ?_
        rintro _ _ ⟨rfl, rfl⟩
        refine ARun.go 200 ?_
        simp only [WO, seval, hn, hi, hmo, hw]
        refine ARun.ret Tryz.func69 rfl (Left.set (by rfl) ?_)
        rw [hS, if_neg (by simp)]
        refine ⟨?_, rfl⟩
        have hlen : ∀ m : Int, decide (m < (ks.length : Int)) = false → decide ((ks.length : Int) ≤ m) = true := fun m h => decide_eq_true (by have := of_decide_eq_false h; omega)
        have hl1 := hlen _ (by assumption)
        show V.d (D.bool ((exsS ks (d + 1) bq).1 && decide _)) = _
        rw [hl1, Bool.and_true])
mutual
theorem expr_ab : ∀ x : ExT, ExprOk x
 | .mk k t i ty ns ks => expr_step k t i ty ns ks (expr_all ks)
theorem expr_all : ∀ (ks : List ExT), ∀ x ∈ ks, ExprOk x
 | [], _, h => absurd h List.not_mem_nil
 | y :: l, x, h => by
  rcases List.mem_cons.1 h with e | e
  ·rw [e]; exact expr_ab y
  ·exact expr_all l x e
end
def c112 := by
 have c := KK_of Tryz.f112 (by conv => lhs; cbv)
 dsimp only [KK, KxP, doO, opO, List.map_cons, List.map_nil, List.toList_toArray] at c
 exact c
theorem b112 : FnIs Tryz.prog 112 Tryz.f112 10 := ⟨Tryz.func112, by kernel_rfl⟩
def c83 := by
 have c := KK_of Tryz.f83 (by conv => lhs; cbv)
 dsimp only [KK, KxP, doO, opO, List.map_cons, List.map_nil, List.toList_toArray] at c
 exact c
theorem b83 : FnIs Tryz.prog 83 Tryz.f83 11 := ⟨Tryz.func83, by kernel_rfl⟩
def c143 := by
 have c := KK_of Tryz.f143 (by conv => lhs; cbv)
 dsimp only [KK, KxP, doO, opO, List.map_cons, List.map_nil, List.toList_toArray] at c
 exact c
theorem b143 : FnIs Tryz.prog 143 Tryz.f143 9 := ⟨Tryz.func143, by kernel_rfl⟩
def StmtOk (n : Nat) (s : StT) : Prop := ∀ (c : Nat) (d p : Int) (B : List (List V)) (T : List (Nat × Nat)), B[c]? = some [.d (.int .i64 p)] → 0 ≤ p ∧ p ≤ 60000 → 0 ≤ d ∧ d ≤ 62 →
 AFn Tryz.prog TabI 113 [.ptr c 0, stV s, .d (.int .i64 d)] ⟨B, T⟩ (Same (.d (.bool (stS n s d p).1)) ⟨B.set c [.d (.int .i64 (stS n s d p).2)], T⟩)
set_option maxHeartbeats 1000000 in
theorem stmts1_ab (n : Nat) (x : StT) (h : StmtOk n x) (a b c : Nat) (d p : Int) (B : List (List V)) (T : List (Nat × Nat)) (hB : B[c]? = some [.d (.int .i64 p)]) (ha : B[a]? = some [.ptr c 0]) (hb : B[b]? = some [.d (.int .i64 d)]) (hp : 0 ≤ p ∧ p ≤ 60000) (hd : 0 ≤ d ∧ d ≤ 62) :
 AFn Tryz.prog TabI 112 [stV x, .ptr a 0, .ptr b 0] ⟨B, T⟩ (Same (.d (.bool (!(stS n x d p).1))) ⟨B.set c [.d (.int .i64 (stS n x d p).2)], T⟩) := by
 obtain ⟨N, hn⟩ : ∃ N, B.length = N := ⟨_, rfl⟩
 have hc := (List.getElem?_eq_some_iff.1 hB).1
 have hi : c < N := by omega
 have hia : a < N := by have := (List.getElem?_eq_some_iff.1 ha).1; omega
 have hib : b < N := by have := (List.getElem?_eq_some_iff.1 hb).1; omega
 have h := h c d p (B ++ [stB x]) T (by rw [bx_old hc]; exact hB) hp hd
 unfold stV at h ⊢
 simp only [stB] at h
 refine b112.go 100 rfl fun hsm => ?_
 simp only [smw] at hsm
 simp only [W, seval, c112, hn, hi, hia, hib, ha, hb]
 refine callS_fn (h) ?_
 rintro _ _ ⟨rfl, rfl⟩
 refine ARun.go 100 ?_
 simp only [W, seval, c112, hn, hi, hia, hib, ha, hb]
 refine ARun.ret Tryz.func112 rfl (Left.set (by rfl) ?_)
 (try clear ih)
 (try simp only [dnw] at *)
 simp only [fnw, seval, Same] <;> simp [*]
 skip
theorem anyF_row {α : Type} (g : α → Int → Bool × Int) : ∀ (l : List α) (p : Int), anyF (fun x q => (!(g x q).1, (g x q).2)) l p = (!(rowS g l p).1, (rowS g l p).2)
 | [], p => rfl
 | x :: l, p => by
  rw [anyF]
  show _ = (!(andS (g x) (rowS g l) p).1, (andS (g x) (rowS g l) p).2)
  unfold andS
  cases h : (g x p).1
  ·simp
  ·simp [anyF_row g l]
theorem st_good (n : Nat) (a b c : Nat) (d : Int) (B X : List (List V)) (T : List (Nat × Nat)) (hd : 0 ≤ d ∧ d ≤ 62) (hc : c < B.length) (ha : ∀ q : Int, (B.set c [.d (.int .i64 q)] ++ X)[a]? = some [.ptr c 0]) (hb : ∀ q : Int, (B.set c [.d (.int .i64 q)] ++ X)[b]? = some [.d (.int .i64 d)]) :
 ∀ (l : List StT) (q : Int), (∀ x ∈ l, StmtOk n x) → 0 ≤ q ∧ q ≤ 60000 → Good Tryz.prog TabI 112 [] [.ptr a 0, .ptr b 0] stV (fun q : Int => ⟨B.set c [.d (.int .i64 q)] ++ X, T⟩) (fun x q => (!(stS n x d q).1, (stS n x d q).2)) l q
 | [], _, _, _ => trivial
 | x :: l, q, hl, hq => by
  have hx := hl x List.mem_cons_self
  have hcx : c < (B.set c [.d (.int .i64 q)]).length := by simpa using hc
  refine ⟨?_, fun h => ?_⟩
  ·have := stmts1_ab n x hx a b c d q (B.set c [.d (.int .i64 q)] ++ X) T (by rw [bx_old hcx]; exact bx_get hc) (ha q) (hb q) hq hd
   rw [bx_set_old hcx, List.set_set] at this
   exact this
  ·have h : (stS n x d q).1 = true := by simpa using h
   have h1 := (Cnts.st n x d).up q h
   have h2 := Bnds.st n x d q hq.2 h
   exact st_good n a b c d B X T hd hc ha hb l _ (fun y hy => hl y (List.mem_cons_of_mem _ hy)) ⟨Int.le_trans hq.1 h1, h2⟩
set_option maxHeartbeats 1000000 in
theorem stmts_ab (n : Nat) (l : List StT) (hl : ∀ x ∈ l, StmtOk n x) (c : Nat) (d p : Int) (B : List (List V)) (T : List (Nat × Nat)) (hB : B[c]? = some [.d (.int .i64 p)]) (hp : 0 ≤ p ∧ p ≤ 60000) (hd : 0 ≤ d ∧ d ≤ 62) :
 AFn Tryz.prog TabI 83 [.ptr c 0, .d (.sl (l.map stD)), .d (.int .i64 d)] ⟨B, T⟩ (Same (.d (.bool (rowS (fun s => stS n s d) l p).1)) ⟨B.set c [.d (.int .i64 (rowS (fun s => stS n s d) l p).2)], T⟩) := by
 obtain ⟨N, hn⟩ : ∃ N, B.length = N := ⟨_, rfl⟩
 have hc := (List.getElem?_eq_some_iff.1 hB).1
 have hi : c < N := by omega
 have hbs : B.set c [.d (.int .i64 p)] = B := by
  obtain ⟨_, h⟩ := List.getElem?_eq_some_iff.1 hB
  rw [← h, List.set_getElem_self]
 refine b83.go 100 rfl fun hsm => ?_
 simp only [smw] at hsm
 simp only [W, seval, c83, hn, hi]
 have hg := st_good n N (N + 1) c d B [[.ptr c 0], [.d (.int .i64 d)]] T hd hc (fun q => by rw [bx_loc0 (by simpa using hn)]; rfl) (fun q => by rw [bx_loc (by simpa using hn)]; rfl) l p hl hp
 have hcf := containsFunc_Stmt 112 [] [.ptr N 0, .ptr (N + 1) 0] (fun q : Int => ⟨B.set c [.d (.int .i64 q)] ++ [[.ptr c 0], [.d (.int .i64 d)]], T⟩) (fun x q => (!(stS n x d q).1, (stS n x d q).2)) (fun _ _ => ⟨by simp, rfl⟩) l (by first | exact hsm | exact hsm.1) p hg
 rw [anyF_row (fun x => stS n x d), hbs] at hcf
 refine callS_fn hcf ?_
 rintro _ _ ⟨rfl, rfl⟩
 refine ARun.go 100 ?_
 simp only [W, seval, c83, hn, hi, Bool.not_not]
 refine ARun.ret Tryz.func83 rfl (Left.set (by rfl) ?_)
 (try clear ih)
 (try simp only [dnw] at *)
 simp only [fnw, seval, Same] <;> simp [*]
 skip
set_option maxHeartbeats 1000000 in
theorem stmt1_ab (x y : CaT) (b : Nat) (bv : V) (B : List (List V)) (T : List (Nat × Nat)) (hb : B[b]? = some [.d (.int .u64 x.int), bv]) :
 AFn Tryz.prog TabI 143 [caV y, .ptr b 0] ⟨B, T⟩ (Same (.d (.bool (decide (y.int = x.int)))) ⟨B, T⟩) := by
 obtain ⟨N, hn⟩ : ∃ N, B.length = N := ⟨_, rfl⟩
 have hib : b < N := by have := (List.getElem?_eq_some_iff.1 hb).1; omega
 unfold caV
 refine b143.go 100 rfl fun hsm => ?_
 simp only [smw] at hsm
 simp only [W, seval, c143, hn, hib, hb]
 refine ARun.ret Tryz.func143 rfl (Left.box ?_)
 (try clear ih)
 (try simp only [dnw] at *)
 simp only [fnw, seval, Same] <;> simp [*]
 skip
theorem case_seen (x : CaT) : ∀ l : List CaT, l.any (fun y => decide (y.int = x.int)) = (l.map CaT.int).contains x.int
 | [] => rfl
 | y :: l => by
  rw [List.any_cons, case_seen x l, List.map_cons, List.contains_cons]
  congr 1
  rw [Bool.eq_iff_iff, decide_eq_true_iff, beq_iff_eq]
  exact eq_comm
def c113 := by
 have c := KK_of Tryz.f113 (by conv => lhs; cbv)
 dsimp only [KK, KxP, doO, opO, List.map_cons, List.map_nil, List.toList_toArray] at c
 exact c
theorem b113 : FnIs Tryz.prog 113 Tryz.f113 97 := ⟨Tryz.func113, by kernel_rfl⟩
theorem andS_no {f g : Int → Bool × Int} {p : Int} (h : (f p).1 = false) : andS f g p = (false, (f p).2) := if_pos h
theorem andS_yes {f g : Int → Bool × Int} {p : Int} (h : (f p).1 = true) : andS f g p = g (f p).2 := if_neg (by rw [h]; simp)
theorem andS_assoc (f g k : Int → Bool × Int) (p : Int) : andS (andS f g) k p = andS f (andS g k) p := by
 cases h : (f p).1
 ·have e : andS f g p = (false, (f p).2) := andS_no h
  rw [andS_no h, andS_no (by rw [e]), e]
 ·have e : andS f g p = g (f p).2 := andS_yes h
  rw [andS_yes h]
  unfold andS at e ⊢
  rw [e]
def lastS (n : Nat) (s : StT) (d : Int) : Int → Bool × Int := andS (exs40 s.lefts (d + 1)) (andS (exs40 s.exprs (d + 1)) (andS (rowS (fun x => stS n x (d + 1)) s.body) (rowS (fun x => stS n x (d + 1)) s.els)))
theorem stS_eq (n : Nat) (s : StT) (d p : Int) : stS (n + 1) s d p = andS (partS d) (andS (allowS (sizedS s && decide (s.cases.length ≤ 40))) (andS (if s.kind = 1 then fun p => tyS identS s.type (d + 1) p else allowS true) (andS (casS (stS n) d [] s.cases) (lastS n s d)))) p := rfl
theorem casS_cons (R : StT → Int → Int → Bool × Int) (d : Int) (seen : List Int) (k : CaT) (l : List CaT) : casS R d seen (k :: l) = andS (partS (d + 1)) (andS (allowS (!seen.contains k.int)) (andS (rowS (fun s => R s (d + 2)) k.body) (casS R d (seen ++ [k.int]) l))) := rfl
theorem app2 {α : Type} (A : List α) (a b : α) : A ++ [a, b] = (A ++ [a]) ++ [b] := by simp
theorem exs40_eq (l : List ExT) (d p : Int) : exs40 l d p = ((exsS l d p).1 && decide ((l.length : Int) ≤ 40), (exsS l d p).2) := by
 have e : decide ((l.length : Int) ≤ 40) = decide (l.length ≤ 40) := decide_eq_decide.2 (by omega)
 rw [e]
 unfold exs40
 cases h : (exsS l d p).1
 ·rw [andS_no h, Bool.false_and]
 ·rw [andS_yes h, Bool.true_and]
  rfl
set_option maxHeartbeats 8000000 in
theorem stmt_step (n : Nat) (s : StT) (hsb : ∀ x ∈ s.body, StmtOk n x) (hse : ∀ x ∈ s.els, StmtOk n x) (hsc : ∀ k ∈ s.cases, ∀ x ∈ k.body, StmtOk n x) : StmtOk (n + 1) s := by
 intro c d p B T hB hp hd
 obtain ⟨N, hn⟩ : ∃ N, B.length = N := ⟨_, rfl⟩
 have hc := (List.getElem?_eq_some_iff.1 hB).1
 have hi : c < N := by omega
 have hi1 : c < N + 1 := by omega
 have hN1 : N < N + 1 := by omega
 have hw1 := wrap_in (d + 1) (by omega)
 have hw2 := wrap_in (d + 2) (by omega)
 generalize hres : stS (n + 1) s d p = res
 rw [stS_eq] at hres
 have hpart := part_ab c d p (B ++ [stB s]) T (by rw [bx_old hc]; exact hB) hp
 have hsz := fun q : Int => sized_ab s (B.set c [.d (.int .i64 q)] ++ [stB s]) T
 unfold stV at hsz ⊢
 simp only [stB] at hpart hsz
 refine b113.go 6 rfl fun hsm => ?_
 simp only [smw] at hsm
 simp only [W, seval, c113, hn, hi]
 refine ARun.join (fun _ : Unit => (envS 97 [(0, .ptr c 0), (2, .d (.int .i64 d)), (4, .ptr N 0)], ⟨B.set c [.d (.int .i64 (p + 1))] ++ [stB s], T⟩)) (fun _ => partOk d p = true ∧ sizedS s = true ∧ s.cases.length ≤ 40) ?_ ?_
 rotate_left
 ·intro K' hK
  refine ARun.goJ 200 ?_
  simp only [W, seval, c113, hn, hi]
  refine callS_fn hpart ?_
  rintro _ _ ⟨rfl, rfl⟩
  refine ARun.goK 200 ?_
  simp only [W, seval, c113, hn, hi]
  cases hk : partOk d p
  ·rw [andS_no (show (partS d p).1 = false from hk)] at hres
   simp only [W, seval, c113, hk, hn, hi]
   refine ARun.ret Tryz.func113 rfl (Left.set (by rfl) ?_)
   rw [← hres]
   (try clear ih)
   (try simp only [dnw] at *)
   simp only [fnw, seval, Same] <;> simp [*]
   rfl
  ·have hpo := partOk_in hk
   rw [andS_yes (show (partS d p).1 = true from hk)] at hres
   simp only [W, seval, c113, hk, hn, hi]
   refine callS_fn (hsz (p + 1)) ?_
   rintro _ _ ⟨rfl, rfl⟩
   refine ARun.goK 200 ?_
   simp only [W, seval, c113, hn, hi]
   cases hz : sizedS s
   ·rw [andS_no (by rw [hz]; rfl)] at hres
    simp only [W, seval, c113, hk, hn, hi]
    refine ARun.ret Tryz.func113 rfl (Left.set (by rfl) ?_)
    rw [← hres]
    (try clear ih)
    (try simp only [dnw] at *)
    simp only [fnw, seval, Same] <;> simp [*]
    rfl
   ·simp only [W, seval, c113, hk, hn, hi]
    refine condS_of (fun h40 => ?_) (fun h40 => ?_)
    ·rw [andS_no (by rw [hz, decide_eq_false (by have := of_decide_eq_true h40; omega)]; rfl)] at hres
     simp only [W, seval, c113, hk, hn, hi]
     refine ARun.ret Tryz.func113 rfl (Left.set (by rfl) ?_)
     rw [← hres]
     (try clear ih)
     (try simp only [dnw] at *)
     simp only [fnw, seval, Same] <;> simp [*]
     rfl
    ·simp only [W, seval, c113, hk, hn, hi]
     refine hK () ⟨hk, hz, by have := of_decide_eq_false h40; omega⟩ _ _ ?_ rfl
     refine Agree.env _ ?_
     simp only [agw, seval, hn]
 ·rintro ⟨⟩ ⟨hk, hz, hcl⟩
  have hpo := partOk_in hk
  rw [andS_yes (show (partS d p).1 = true from hk), andS_yes (by simp [allowS, hz, hcl])] at hres
  change andS _ _ (p + 1) = res at hres
  clear hpart hsz
  dsimp only [stB]
  refine ARun.go 1 ?_
  simp only [W, seval, c113]
  refine ARun.join (fun q : Int => (envS 97 [(0, .ptr c 0), (2, .d (.int .i64 d)), (4, .ptr N 0)], ⟨B.set c [.d (.int .i64 q)] ++ [stB s], T⟩)) (fun q => (0 ≤ q ∧ q ≤ 60000) ∧ andS (casS (stS n) d [] s.cases) (lastS n s d) q = res) ?_ ?_
  rotate_left
  ·intro K' hK
   by_cases k1 : s.kind = 1
   ·rw [if_pos k1] at hres
    have e1 := decide_eq_true k1
    refine ARun.goJ 200 ?_
    simp only [W, seval, c113, hn, hi, hw1, e1]
    refine callS_fn (typ_ab s.type c (d + 1) (p + 1) _ T (by rw [bx_old (by simp; omega)]; exact bx_get hc) ⟨by omega, by omega⟩ ⟨by omega, by omega⟩) ?_
    rintro _ _ ⟨rfl, rfl⟩
    have hok := tyS_ok identS s.type (d + 1) (p + 1)
    obtain ⟨⟨b, q⟩, hty⟩ : ∃ r, tyS identS s.type (d + 1) (p + 1) = r := ⟨_, rfl⟩
    rw [hty] at hok
    refine ARun.goK 200 ?_
    simp only [W, seval, c113, hn, hi, hty]
    cases b
    ·rw [andS_no (by rw [hty]), hty] at hres
     simp only [W, seval, c113, hn, hi]
     refine ARun.ret Tryz.func113 rfl (Left.set (by rfl) ?_)
     rw [← hres]
     (try clear ih)
     (try simp only [dnw] at *)
     simp only [fnw, seval, Same] <;> simp [*]
     skip
    ·rw [andS_yes (by rw [hty]), hty] at hres
     have hok := hok rfl
     simp only [W, seval, c113, hn, hi]
     refine hK q ⟨⟨by omega, hok.2⟩, hres⟩ _ _ ?_ rfl
     refine Agree.env _ ?_
     simp only [agw, seval, hn]
   ·rw [if_neg k1, andS_yes rfl] at hres
    have e1 := decide_eq_false k1
    refine ARun.goJ 200 ?_
    simp only [W, seval, c113, hn, hi, hw1, e1]
    refine hK (p + 1) ⟨⟨by omega, hpo.1⟩, hres⟩ _ _ ?_ rfl
    refine Agree.env _ ?_
    simp only [agw, seval, hn]
  ·rintro q ⟨hq, hres2⟩
   clear hres
   dsimp only [stB]
   refine ARun.go 20 ?_
   simp only [W, seval, c113, hn, hi]
   refine ARun.fits fun hf => ?_
   have hf2 : ∀ q' : Int, Fits ⟨B.set c [.d (.int .i64 q')] ++ [[.d (.int .i64 s.kind), .d (.sl (ssD s.names)), .d (.int .i64 s.type.kind), .d (.str s.type.name), .d (.sl (s.type.elem.map tyD)), .d (.sl (s.lefts.map exD)), .d (.sl (s.exprs.map exD)), .d (.sl (s.body.map stD)), .d (.sl (s.els.map stD)), .d (.sl (s.cases.map caD))]], T⟩ := fun q' => by
    have := hf.set (i := c) (vs := [.d (.int .i64 q')]) rfl
    rwa [bx_set_old (by simp; omega), List.set_set] at this
   refine ARun.small fun hsm2 => ?_
   have hcl2 : (s.cases.length : Int) ≤ 40 := by omega
   clear hsm2
   refine ARun.loopB (fun a : Nat × Int => (envS 97 [(0, .ptr c 0), (2, .d (.int .i64 d)), (4, .ptr N 0), (37, .d (.sl (s.cases.map caD))), (38, .d (.int .i64 s.cases.length)), (39, .d (.int .i64 a.1))], ⟨B.set c [.d (.int .i64 a.2)] ++ [[.d (.int .i64 s.kind), .d (.sl (ssD s.names)), .d (.int .i64 s.type.kind), .d (.str s.type.name), .d (.sl (s.type.elem.map tyD)), .d (.sl (s.lefts.map exD)), .d (.sl (s.exprs.map exD)), .d (.sl (s.body.map stD)), .d (.sl (s.els.map stD)), .d (.sl (s.cases.map caD))]], T⟩)) (fun a => a.1 ≤ s.cases.length ∧ (0 ≤ a.2 ∧ a.2 ≤ 60000) ∧ andS (casS (stS n) d ((s.cases.take a.1).map CaT.int) (s.cases.drop a.1)) (lastS n s d) a.2 = res) (fun a => s.cases.length - a.1) (0, q) ⟨by omega, hq, hres2⟩ ?_ rfl ?_
   ·skip
    refine Agree.env _ ?_
    simp only [agw, seval, hn]
   rintro ⟨i, r⟩ ⟨h1, h2, h3⟩ ih
   dsimp only at h1 h2 h3 ih ⊢
   by_cases hlt : i < s.cases.length
   ·have hw := wrap_in ((i : Int) + 1) (by omega)
    have hg := List.getElem?_eq_getElem hlt
    have hlt' : decide ((i : Int) < (s.cases.length : Int)) = true := decide_eq_true (by omega)
    have hle : (i : Int) ≤ (s.cases.length : Int) := by omega
    have hle' : decide ((i : Int) ≤ (s.cases.length : Int)) = true := decide_eq_true hle
    rw [drop_get hlt, casS_cons, andS_assoc] at h3
    obtain ⟨x, hx⟩ : ∃ x, s.cases[i] = x := ⟨_, rfl⟩
    rw [hx] at hg h3
    have hmt : (s.cases.map caD).take i = (s.cases.take i).map caD := (List.map_take).symm
    have hpart := part_ab c (d + 1) r
    refine ARun.go 200 ?_
    simp only [W, seval, c113, hn, hi, hw1, List.getElem?_map, hg, hlt', caD_eq]
    refine callS_fn (hpart _ T (by rw [bx_old (by simp; omega)]; exact bx_get hc) h2) ?_
    rintro _ _ ⟨rfl, rfl⟩
    refine ARun.go 200 ?_
    simp only [W, seval, c113, hn, hi, hw1]
    cases hk2 : partOk (d + 1) r
    ·rw [andS_no (show (partS (d + 1) r).1 = false from hk2)] at h3
     simp only [W, seval, c113, hn, hi, hk2]
     refine ARun.ret Tryz.func113 rfl (Left.set (by rfl) ?_)
     rw [← h3]
     (try clear ih)
     (try simp only [dnw] at *)
     simp only [fnw, seval, Same] <;> simp [*]
     rfl
    ·have hpo2 := partOk_in hk2
     rw [andS_yes (show (partS (d + 1) r).1 = true from hk2), andS_assoc] at h3
     change andS _ _ (r + 1) = res at h3
     simp only [W, seval, c113, hn, hi, hk2, hle, hle', hmt]
     have hcf := fun S => containsFunc_Case 143 [] [.ptr (N + 1) 0] (fun _ : Unit => S) (fun y s => (decide (y.int = x.int), s)) (fun _ _ => ⟨rfl, rfl⟩) (s.cases.take i) (by simp; omega) ()
     refine callS_fn (hcf _ (good_of (s.cases.take i) fun y _ => stmt1_ab x y (N + 1) _ _ T (by rw [bx_loc (by simpa using hn)]; rfl))) ?_
     rintro _ _ ⟨rfl, rfl⟩
     rw [anyF_unit, case_seen]
     refine ARun.go 200 ?_
     simp only [W, seval, c113, hn, hi, hw2]
     cases hcs : ((s.cases.take i).map CaT.int).contains x.int
     ·rw [andS_yes (by rw [hcs]; rfl), andS_assoc] at h3
      change andS _ _ (r + 1) = res at h3
      simp only [W, seval, c113, hn, hi, hcs, hw2]
      refine callS_fn (stmts_ab n x.body (hsc x (by rw [← hx]; exact List.getElem_mem hlt)) c (d + 2) (r + 1) _ T (by rw [bx_old (by simp; omega)]; exact bx_get hc) ⟨by omega, hpo2.1⟩ ⟨by omega, by omega⟩) ?_
      rintro _ _ ⟨rfl, rfl⟩
      have hup := (Cnts.row (f := fun s => stS n s (d + 2)) (c := stC n) x.body fun y _ => Cnts.st n y (d + 2)).up (r + 1)
      have hbn := Bnds.row (f := fun s => stS n s (d + 2)) (fun y => Bnds.st n y (d + 2)) x.body (r + 1) hpo2.1
      obtain ⟨⟨b, q2⟩, hrow⟩ : ∃ z, rowS (fun s => stS n s (d + 2)) x.body (r + 1) = z := ⟨_, rfl⟩
      rw [hrow] at hup hbn
      refine ARun.go 200 ?_
      simp only [W, seval, c113, hn, hi, hrow]
      cases b
      ·rw [andS_no (by rw [hrow]), hrow] at h3
       simp only [W, seval, c113, hn, hi]
       refine ARun.ret Tryz.func113 rfl (Left.set (by rfl) ?_)
       rw [← h3]
       (try clear ih)
       (try simp only [dnw] at *)
       simp only [fnw, seval, Same] <;> simp [*]
       skip
      ·rw [andS_yes (by rw [hrow]), hrow] at h3
       have hup := hup rfl
       have hbn := hbn rfl
       simp only [W, seval, c113, hn, hi, hw]
       have hstep : (s.cases.take (i + 1)).map CaT.int = (s.cases.take i).map CaT.int ++ [x.int] := by
        rw [List.take_succ_eq_append_getElem hlt, List.map_append, hx]
        rfl
       rw [app2]
       refine ih (i + 1, q2) ⟨hlt, ⟨by dsimp only; omega, hbn⟩, ?_⟩ (by dsimp only; omega) _ _ _ _ rfl ⟨by simp; omega, Nat.le_refl _⟩ (hf2 q2) ?_
       ·dsimp only
        rw [hstep]
        exact h3
       ·skip
        refine AgreeF.env _ ?_
        simp only [agf, seval, hn, List.length_append, List.length_cons, List.length_nil, Nat.zero_add, hi1, hN1]
     ·rw [andS_no (by rw [hcs]; rfl)] at h3
      simp only [W, seval, c113, hn, hi, hcs]
      refine ARun.ret Tryz.func113 rfl (Left.set (by rfl) ?_)
      rw [← h3]
      (try clear ih)
      (try simp only [dnw] at *)
      simp only [fnw, seval, Same] <;> simp [*]
      rfl
   ·have hlt' : decide ((i : Int) < (s.cases.length : Int)) = false := decide_eq_false (by omega)
    rw [List.drop_eq_nil_of_le (by omega), andS_yes rfl] at h3
    change lastS n s d r = res at h3
    unfold lastS at h3
    refine ARun.go 200 ?_
    simp only [W, seval, c113, hn, hi, hlt', hw1]
    refine callS_fn (exprs_ab s.lefts (fun x _ => expr_ab x) c (d + 1) 40 r _ T (by rw [bx_old (by simp; omega)]; exact bx_get hc) h2 ⟨by omega, by omega⟩) ?_
    rintro _ _ ⟨rfl, rfl⟩
    have hup := (Cnts.exs40 s.lefts (d + 1)).up r
    have hbn := Bnds.exs40 s.lefts (d + 1) r h2.2
    have he := exs40_eq s.lefts (d + 1) r
    obtain ⟨⟨b1, q1⟩, hq1⟩ : ∃ z, exs40 s.lefts (d + 1) r = z := ⟨_, rfl⟩
    rw [hq1] at hup hbn he
    obtain ⟨he1, he2⟩ := Prod.mk.inj he
    rw [← he1, ← he2]
    clear he he1 he2
    refine ARun.go 200 ?_
    simp only [W, seval, c113, hn, hi, hw1]
    cases b1
    ·rw [andS_no (by rw [hq1]), hq1] at h3
     simp only [W, seval, c113, hn, hi, hw1]
     refine ARun.ret Tryz.func113 rfl (Left.set (by rfl) ?_)
     rw [← h3]
     (try clear ih)
     (try simp only [dnw] at *)
     simp only [fnw, seval, Same] <;> simp [*]
     skip
    rw [andS_yes (by rw [hq1]), hq1] at h3
    dsimp only at h3
    have hup1 := hup rfl
    have hbn1 := hbn rfl
    dsimp only at hup1 hbn1
    simp only [W, seval, c113, hn, hi, hw1]
    refine callS_fn (exprs_ab s.exprs (fun x _ => expr_ab x) c (d + 1) 40 q1 _ T (by rw [bx_old (by simp; omega)]; exact bx_get hc) ⟨by omega, hbn1⟩ ⟨by omega, by omega⟩) ?_
    rintro _ _ ⟨rfl, rfl⟩
    have hup := (Cnts.exs40 s.exprs (d + 1)).up q1
    have hbn := Bnds.exs40 s.exprs (d + 1) q1 hbn1
    have he := exs40_eq s.exprs (d + 1) q1
    obtain ⟨⟨b2, q2⟩, hq2⟩ : ∃ z, exs40 s.exprs (d + 1) q1 = z := ⟨_, rfl⟩
    rw [hq2] at hup hbn he
    obtain ⟨he1, he2⟩ := Prod.mk.inj he
    rw [← he1, ← he2]
    clear he he1 he2
    refine ARun.go 200 ?_
    simp only [W, seval, c113, hn, hi, hw1]
    cases b2
    ·rw [andS_no (by rw [hq2]), hq2] at h3
     simp only [W, seval, c113, hn, hi, hw1]
     refine ARun.ret Tryz.func113 rfl (Left.set (by rfl) ?_)
     rw [← h3]
     (try clear ih)
     (try simp only [dnw] at *)
     simp only [fnw, seval, Same] <;> simp [*]
     skip
    rw [andS_yes (by rw [hq2]), hq2] at h3
    dsimp only at h3
    have hup2 := hup rfl
    have hbn2 := hbn rfl
    dsimp only at hup2 hbn2
    simp only [W, seval, c113, hn, hi, hw1]
    refine callS_fn (stmts_ab n s.body hsb c (d + 1) q2 _ T (by rw [bx_old (by simp; omega)]; exact bx_get hc) ⟨by omega, hbn2⟩ ⟨by omega, by omega⟩) ?_
    rintro _ _ ⟨rfl, rfl⟩
    have hup := (Cnts.row (f := fun s => stS n s (d + 1)) (c := stC n) s.body fun y _ => Cnts.st n y (d + 1)).up q2
    have hbn := Bnds.row (f := fun s => stS n s (d + 1)) (fun y => Bnds.st n y (d + 1)) s.body q2 hbn2
    obtain ⟨⟨b3, q3⟩, hq3⟩ : ∃ z, rowS (fun s => stS n s (d + 1)) s.body q2 = z := ⟨_, rfl⟩
    rw [hq3] at hup hbn
    refine ARun.go 200 ?_
    simp only [W, seval, c113, hn, hi, hw1, hq3]
    cases b3
    ·rw [andS_no (by rw [hq3]), hq3] at h3
     simp only [W, seval, c113, hn, hi, hw1]
     refine ARun.ret Tryz.func113 rfl (Left.set (by rfl) ?_)
     rw [← h3]
     (try clear ih)
     (try simp only [dnw] at *)
     simp only [fnw, seval, Same] <;> simp [*]
     skip
    rw [andS_yes (by rw [hq3]), hq3] at h3
    dsimp only at h3
    have hup3 := hup rfl
    have hbn3 := hbn rfl
    dsimp only at hup3 hbn3
    simp only [W, seval, c113, hn, hi, hw1]
    refine callS_fn (stmts_ab n s.els hse c (d + 1) q3 _ T (by rw [bx_old (by simp; omega)]; exact bx_get hc) ⟨by omega, hbn3⟩ ⟨by omega, by omega⟩) ?_
    rintro _ _ ⟨rfl, rfl⟩
    rw [h3]
    refine ARun.go 200 ?_
    simp only [W, seval, c113, hn, hi, hw1]
    refine ARun.ret Tryz.func113 rfl (Left.set (by rfl) ?_)
    (try clear ih)
    (try simp only [dnw] at *)
    simp only [fnw, seval, Same] <;> simp [*]
    skip
def Dp : Nat → StT → Prop
 | 0, _ => False
 | n + 1, s => (∀ x ∈ s.body, Dp n x) ∧ (∀ x ∈ s.els, Dp n x) ∧ ∀ k ∈ s.cases, ∀ x ∈ k.body, Dp n x
theorem stmt_ab : ∀ (n : Nat) (s : StT), Dp n s → StmtOk n s
 | 0, _, h => h.elim
 | n + 1, s, h => stmt_step n s (fun x hx => stmt_ab n x (h.1 x hx)) (fun x hx => stmt_ab n x (h.2.1 x hx)) (fun k hk x hx => stmt_ab n x (h.2.2 k hk x hx))
theorem Dp.of_size : ∀ (n : Nat) (s : StT), SizeOf.sizeOf s ≤ n → Dp n s
 | 0, s, h => by
  cases s with
  | mk k ns ty ls es b e cs => simp at h
 | n + 1, s, h => by
  cases s with
  | mk k ns ty ls es b e cs =>
   have h0 : 1 + SizeOf.sizeOf b + SizeOf.sizeOf e + SizeOf.sizeOf cs ≤ n + 1 := by
    simp only [StT.mk.sizeOf_spec] at h
    omega
   refine ⟨fun x hx => Dp.of_size n x ?_, fun x hx => Dp.of_size n x ?_, fun c hc x hx => Dp.of_size n x ?_⟩
   ·have := List.sizeOf_lt_of_mem (show x ∈ b from hx)
    omega
   ·have := List.sizeOf_lt_of_mem (show x ∈ e from hx)
    omega
   ·have h1 := List.sizeOf_lt_of_mem (show c ∈ cs from hc)
    have h2 := List.sizeOf_lt_of_mem hx
    have h3 : SizeOf.sizeOf c.body ≤ SizeOf.sizeOf c := by
     cases c with
     | mk i b => simp only [CaT.body, CaT.mk.sizeOf_spec]; omega
    omega
def c80 := by
 have c := KK_of Tryz.f80 (by conv => lhs; cbv)
 dsimp only [KK, KxP, doO, opO, List.map_cons, List.map_nil, List.toList_toArray] at c
 exact c
theorem b80 : FnIs Tryz.prog 80 Tryz.f80 40 := ⟨Tryz.func80, by kernel_rfl⟩
theorem mapD_nil : List.mapM toD [] = some [] := rfl
theorem mapD_cons (x : D) (l : List V) : List.mapM toD (.d x :: l) = (List.mapM toD l).map (x :: ·) := by
 rw [List.mapM_cons]
 show (some x).bind _ = _
 rw [Option.bind_some]
 cases List.mapM toD l <;> rfl
theorem vr_plain {c : Cx} {w : World} {rows : List (List D)} {tk : Tok} {v : Value} (h : VR c w (.sl rows tk) v) : VR c w (.d (.sl rows)) v := by
 cases h with
 | full _ a h ha => exact .d _ _ h
 | own _ t a cap i h ht hr hn hl => exact .d _ _ h
theorem sl_plain {P : Program} {I : Inv} {f : FuncId} {rows : List (List D)} {tk : Tok} {S : Mem} {R : V → Mem → Prop} (h : AFn P I f [.d (.sl rows)] S R) : AFn P I f [.sl rows tk] S R :=
 ⟨h.1, fun c w xs h1 h2 h3 hI => h.2 c w xs h1 (fun j hj => by
  have hj0 : j = 0 := by simpa using hj
  subst hj0
  exact vr_plain (h2 0 (by simp))) h3 hI⟩
theorem setAll0 {B : List (List V)} {T K : List (Nat × Nat)} {R : V → Mem → Prop} {v : V} {i : Nat} {vs : List V} (hf : vs.all (fit B.length T.length) = true) (h : R (wk B.length T.length v) ⟨B.set i vs, T⟩) : Ab.Left ⟨B, T⟩ R v ⟨B.set i vs, T ++ K⟩ := by
 have := Left.setAll (J := []) (K := K) hf h
 rwa [List.append_nil] at this
theorem pa_step (most : Nat) (l : List PaT) (p : Int) : paS most l p = andS (rowS (fun x : PaT => andS (partS 0) (fun p => tyS identS x.type 0 p)) l) (allowS (decide (l.length ≤ most) && diffS l.length (l.map PaT.name))) p := rfl
set_option maxHeartbeats 4000000 in
theorem params_ab (most : Nat) (_ : most ≤ 1000) (l : List PaT) (c : Nat) (p : Int) (B : List (List V)) (T : List (Nat × Nat)) (hB : B[c]? = some [.d (.int .i64 p)]) (hp : 0 ≤ p ∧ p ≤ 60000) :
 AFn Tryz.prog TabI 80 [.ptr c 0, .d (.sl (l.map paD)), .d (.int .i64 most)] ⟨B, T⟩ (Same (.d (.bool (paS most l p).1)) ⟨B.set c [.d (.int .i64 (paS most l p).2)], T⟩) := by
 obtain ⟨N, hn⟩ : ∃ N, B.length = N := ⟨_, rfl⟩
 obtain ⟨M, hM⟩ : ∃ M, T.length = M := ⟨_, rfl⟩
 have hc := (List.getElem?_eq_some_iff.1 hB).1
 have hi : c < N := by omega
 have hbs : B.set c [.d (.int .i64 p)] = B := by
  obtain ⟨_, h⟩ := List.getElem?_eq_some_iff.1 hB
  rw [← h, List.set_getElem_self]
 generalize hres : paS most l p = res
 rw [pa_step] at hres
 refine b80.go 14 rfl fun hsm => ?_
 simp only [smw] at hsm
 simp only [W, seval, c80, hn, hi]
 refine ARun.fits fun hf => ?_
 refine ARun.token 7 [] (by rfl) 1 (by omega) rfl ?_
 simp only [envS_put, hM]
 refine ARun.go 20 ?_
 simp only [W, seval, c80, hn, hi]
 refine ARun.loopB (fun a : Nat × Int => (envS 40 [(0, .ptr c 0), (1, .d (.sl (l.map paD))), (2, .d (.int .i64 most)), (6, .d (.bool false)), (7, .sl (ssD ((l.take a.1).map PaT.name)) (.own M)), (10, .d (.sl (l.map paD))), (11, .d (.int .i64 l.length)), (12, .d (.int .i64 a.1))], ⟨B.set c [.d (.int .i64 a.2)], T ++ [(a.1, 1)]⟩)) (fun a => a.1 ≤ l.length ∧ ((a.1 : Int) ≤ a.2 ∧ a.2 ≤ 60000) ∧ andS (rowS (fun x : PaT => andS (partS 0) (fun p => tyS identS x.type 0 p)) (l.drop a.1)) (allowS (decide (l.length ≤ most) && diffS l.length (l.map PaT.name))) a.2 = res) (fun a => l.length - a.1) (0, p) ⟨by omega, hp, hres⟩ ?_ (by rw [hbs]) ?_
 ·skip
  refine Agree.env _ ?_
  simp only [agw, seval, hn]
  trivial
 rintro ⟨i, q⟩ ⟨h1, h2, h3⟩ ih
 dsimp only at h1 h2 h3 ih ⊢
 by_cases hlt : i < l.length
 ·have hw := wrap_in ((i : Int) + 1) (by omega)
  have hlt' : decide ((i : Int) < (l.length : Int)) = true := decide_eq_true (by omega)
  have hg := List.getElem?_eq_getElem hlt
  have hmin : min i l.length = i := by omega
  have hcap : (i + 1) * 16 ≤ 140737488355328 := by omega
  have hss : ssD ((l.take i).map PaT.name) ++ [[.str l[i].name]] = ssD ((l.take (i + 1)).map PaT.name) := by
   rw [List.take_succ_eq_append_getElem hlt, List.map_append]
   simp [ssD]
  have hr1 : ∀ s : List UInt8, rowsSz 1 [[D.str s]] = true := fun _ => rfl
  have hM1 : M < M + 1 := by omega
  rw [drop_get hlt] at h3
  change andS (andS (andS (partS 0) (fun p => tyS identS l[i].type 0 p)) (rowS _ (l.drop (i + 1)))) _ q = res at h3
  rw [andS_assoc, andS_assoc] at h3
  refine ARun.go 100 ?_
  simp only [W, seval, c80, hn, hi, hM, List.getElem?_map, hg, hlt', paD, hmin, List.length_take, hcap, hss, mapD_nil, mapD_cons, Nat.reduceMul, hr1]
  refine callS_fn (part_ab c 0 q _ _ (by rw [bx_old (by simp; omega)]; exact bx_get hc) ⟨by omega, h2.2⟩) ?_
  rintro _ _ ⟨rfl, rfl⟩
  refine ARun.go 200 ?_
  simp only [W, seval, c80, hn, hi, hM]
  cases hk : partOk 0 q
  ·rw [andS_no (show (partS 0 q).1 = false from hk)] at h3
   simp only [W, seval, c80, hn, hi, hk]
   refine ARun.ret Tryz.func80 rfl (Left.setAll rfl ?_)
   rw [← h3]
   (try clear ih)
   (try simp only [dnw] at *)
   simp only [fnw, seval, Same] <;> simp [*]
   rfl
  ·have hpo := partOk_in hk
   rw [andS_yes (show (partS 0 q).1 = true from hk)] at h3
   change andS _ _ (q + 1) = res at h3
   simp only [W, seval, c80, hn, hi, hk]
   refine callS_fn (typ_ab l[i].type c 0 (q + 1) _ _ (by rw [bx_old (by simp; omega)]; exact bx_get hc) ⟨by omega, hpo.1⟩ ⟨by omega, by omega⟩) ?_
   rintro _ _ ⟨rfl, rfl⟩
   have hok := tyS_ok identS l[i].type 0 (q + 1)
   obtain ⟨⟨b, r⟩, hty⟩ : ∃ z, tyS identS l[i].type 0 (q + 1) = z := ⟨_, rfl⟩
   rw [hty] at hok
   refine ARun.go 200 ?_
   simp only [W, seval, c80, hn, hi, hM, hty]
   cases b
   ·rw [andS_no (by rw [hty]), hty] at h3
    simp only [W, seval, c80, hn, hi]
    refine ARun.ret Tryz.func80 rfl (Left.setAll rfl ?_)
    rw [← h3]
    (try clear ih)
    (try simp only [dnw] at *)
    simp only [fnw, seval, Same] <;> simp [*]
    skip
   ·rw [andS_yes (by rw [hty]), hty] at h3
    have hok := hok rfl
    dsimp only at hok h3
    simp only [W, seval, c80, hn, hi, hM, hw]
    refine ih (i + 1, r) ⟨hlt, ⟨by dsimp only; omega, hok.2⟩, h3⟩ (by dsimp only; omega) _ _ _ _ rfl ⟨by simp; omega, by simp; omega⟩ ?_ ?_
    ·have := Fits.more (X := []) (Y := [(i + 1, 1)]) (Fits.set hf (i := c) (vs := [.d (.int .i64 r)]) rfl) (fun vs hv => absurd hv List.not_mem_nil)
     rwa [List.append_nil] at this
    ·skip
     refine AgreeF.env _ ?_
     simp only [agf, seval, hn, hi, hM, List.length_append, List.length_cons, List.length_nil, Nat.zero_add, hM1]
 ·have hlt' : decide ((i : Int) < (l.length : Int)) = false := decide_eq_false (by omega)
  rw [List.drop_eq_nil_of_le (by omega), andS_yes rfl] at h3
  have hti : l.take i = l := List.take_of_length_le (by omega)
  have hmo : decide ((l.length : Int) ≤ (most : Int)) = decide (l.length ≤ most) := decide_eq_decide.2 (by omega)
  refine ARun.go 200 ?_
  simp only [W, seval, c80, hn, hi, hM, hlt', hti, hmo]
  cases hle : decide (l.length ≤ most)
  ·simp only [W, seval, c80, hn, hi, hM]
   refine ARun.ret Tryz.func80 rfl (setAll0 rfl ?_)
   rw [← h3, hle]
   (try clear ih)
   (try simp only [dnw] at *)
   simp only [fnw, seval, Same] <;> simp [*]
   exact ⟨rfl, rfl⟩
  ·simp only [W, seval, c80, hn, hi, hM]
   refine callS_fn (sl_plain (different_ab (l.map PaT.name) (by simp; have := of_decide_eq_true hle; omega) _ _)) ?_
   rintro _ _ ⟨rfl, rfl⟩
   refine ARun.go 200 ?_
   simp only [W, seval, c80, hn, hi, hM]
   refine ARun.ret Tryz.func80 rfl (setAll0 rfl ?_)
   rw [← h3, hle]
   (try clear ih)
   (try simp only [dnw] at *)
   simp only [fnw, seval, Same] <;> simp [*]
   exact ⟨rfl, rfl⟩
set_option linter.unusedVariables false
def PL (f : FuncId) (ar : Nat → List V) (u : Nat → List UInt8) : Prop := ∀ (i t : Nat) (s : List UInt8) (k : Nat) (B : List (List V)) (T : List (Nat × Nat)), i < B.length → t < T.length → k ≤ 900 → s.length + (u k).length ≤ mostW →
 AFn Tryz.prog TabI f (.ptr i 0 :: ar i) ⟨B.set i (bxW i t s k), T.set t (s.length, 1)⟩ (Same (.tup []) ⟨B.set i (bxW i t (s ++ u k) k), T.set t ((s ++ u k).length, 1)⟩)
section
variable {f : FuncId} {ar : Nat → List V} {u : Nat → List UInt8} {i t k : Nat} {s : List UInt8} {B J : List (List V)} {T : List (Nat × Nat)} {stop : Cont} {q : List Item} {d : Option Tmp} {env : List V}
theorem PL.callJ (h : PL f ar u) (hi : i < B.length) (ht : t < T.length) (hk : k ≤ 900) (hb : s.length + (u k).length ≤ mostW) (hc : ∀ s', s ++ u k = s' → stop q (setV env d (.tup [])) ⟨B.set i (bxW i t s' k) ++ J, T.set t (s'.length, 1)⟩) :
 callS Tryz.prog TabI stop (.func f [] []) (.ptr i 0 :: ar i) q d env ⟨B.set i (bxW i t s k) ++ J, T.set t (s.length, 1)⟩ := by
 have h' := h i t s k (B ++ J) T (by simp; omega) ht hk hb
 rw [List.set_append_left _ _ hi, List.set_append_left _ _ hi] at h'
 exact callS_fn h' fun _ _ ⟨e1, e2⟩ => by rw [e1, e2]; exact hc _ rfl
theorem PL.call0 (h : PL f ar u) (hi : i < B.length) (ht : t < T.length) (hk : k ≤ 900) (hb : s.length + (u k).length ≤ mostW) (hc : ∀ s', s ++ u k = s' → stop q (setV env d (.tup [])) ⟨B.set i (bxW i t s' k), T.set t (s'.length, 1)⟩) :
 callS Tryz.prog TabI stop (.func f [] []) (.ptr i 0 :: ar i) q d env ⟨B.set i (bxW i t s k), T.set t (s.length, 1)⟩ :=
 callS_fn (h i t s k B T hi ht hk hb) fun _ _ ⟨e1, e2⟩ => by rw [e1, e2]; exact hc _ rfl
end
theorem put1 (x : List UInt8) : PW 49 [.sl [[.str x]] .full] fun _ => x := (put_pw [x] (by simp)).cong fun _ => by simp
theorem put2 (x y : List UInt8) : PW 49 [.sl [[.str x], [.str y]] .full] fun _ => x ++ y := (put_pw [x, y] (by simp)).cong fun _ => by simp
theorem put3 (x y z : List UInt8) : PW 49 [.sl [[.str x], [.str y], [.str z]] .full] fun _ => x ++ y ++ z := (put_pw [x, y, z] (by simp)).cong fun _ => by simp
theorem comb_cons (b : Bool) (x : List UInt8) (l : List (List UInt8)) : comB b (x :: l) = (if b = true then [44, 32] else []) ++ (x ++ comB true l) := rfl
theorem comb_drop (b : Bool) (us : List (List UInt8)) (j : Nat) (h : j < us.length) : comB b (us.drop j) = (if b = true then [44, 32] else []) ++ (us[j] ++ comB true (us.drop (j + 1))) := by
 rw [List.drop_eq_getElem_cons h, comb_cons]
theorem fitsW {n m i t k : Nat} {s s' : List UInt8} {B L : List (List V)} {T : List (Nat × Nat)} {a b : Nat × Nat} (hB : B.length = n) (hL : L.length = n) (hm : T.length = m) (hi : i < n) (ht : t < m) (hf : Fits ⟨B.set i (bxW i t s k), T.set t a⟩) (hl : FitL n m B L) : Fits ⟨L.set i (bxW i t s' k), T.set t b⟩ := by
 intro vs hvs
 have hvs : vs ∈ L.set i (bxW i t s' k) := hvs
 show vs.all (fit (L.set i _).length (T.set t b).length) = true
 rw [List.length_set, List.length_set, hL, hm]
 rcases List.mem_or_eq_of_mem_set hvs with h | rfl
 ·obtain ⟨j, hj⟩ := List.mem_iff_getElem?.1 h
  rcases hl j vs hj with h0 | h0
  ·by_cases e : j = i
   ·subst e
    obtain ⟨q, hq⟩ := List.mem_iff_getElem?.1 hvs
    by_cases e2 : q = j
    ·subst e2
     rw [List.getElem?_set_self (by omega)] at hq
     obtain rfl := Option.some.inj hq
     exact fitW hi ht
    ·rw [List.getElem?_set_ne (fun h => e2 h.symm)] at hq
     rcases hl q vs hq with h1 | h1
     ·have := hf vs (by
       show vs ∈ B.set j _
       exact List.mem_of_getElem? (i := q) (by rw [List.getElem?_set_ne (fun h => e2 h.symm)]; exact h1))
      have this : vs.all (fit (B.set j (bxW j t s k)).length (T.set t a).length) = true := this
      rwa [List.length_set, List.length_set, hB, hm] at this
     ·exact h1
   ·have := hf vs (by
     show vs ∈ B.set i _
     exact List.mem_of_getElem? (i := j) (by rw [List.getElem?_set_ne (fun h => e h.symm)]; exact h0))
    have this : vs.all (fit (B.set i (bxW i t s k)).length (T.set t a).length) = true := this
    rwa [List.length_set, List.length_set, hB, hm] at this
  ·exact h0
 ·exact fitW hi ht
theorem leftW {n m i t k : Nat} {s s' : List UInt8} {B L J : List (List V)} {T : List (Nat × Nat)} {a b : Nat × Nat} {R : V → Mem → Prop} {v : V} (hB : B.length = n) (hL : L.length = n) (hm : T.length = m) (hi : i < n) (ht : t < m) (hl : FitL n m B L)
 (h : R (wk (B.set i (bxW i t s k)).length (T.set t a).length v) ⟨L.set i (bxW i t s' k), T.set t b⟩) : Ab.Left ⟨B.set i (bxW i t s k), T.set t a⟩ R v ⟨L.set i (bxW i t s' k) ++ J, T.set t b⟩ := by
 have := Ab.Left.of (B := B.set i (bxW i t s k)) (L := L.set i (bxW i t s' k)) (J := J) (T := T.set t a) (U := T.set t b) (K := []) (R := R) (v := v) (by simp [hB, hL]) (by simp) (fun j vs hj => ?_) h
 ·rwa [List.append_nil] at this
 ·rw [List.length_set, List.length_set, hB, hm]
  by_cases e : j = i
  ·subst e
   rw [List.getElem?_set_self (by omega)] at hj
   obtain rfl := Option.some.inj hj
   exact .inr (fitW hi ht)
  ·rw [List.getElem?_set_ne (fun h => e h.symm)] at hj ⊢
   exact hl j vs hj
theorem leftW0 {n m i t k : Nat} {s s' : List UInt8} {B L : List (List V)} {T : List (Nat × Nat)} {a b : Nat × Nat} {R : V → Mem → Prop} {v : V} (hB : B.length = n) (hL : L.length = n) (hm : T.length = m) (hi : i < n) (ht : t < m) (hl : FitL n m B L)
 (h : R (wk (B.set i (bxW i t s k)).length (T.set t a).length v) ⟨L.set i (bxW i t s' k), T.set t b⟩) : Ab.Left ⟨B.set i (bxW i t s k), T.set t a⟩ R v ⟨L.set i (bxW i t s' k), T.set t b⟩ := by
 have := leftW (J := []) hB hL hm hi ht hl h
 rwa [List.append_nil] at this
set_option linter.defProp false
def c107 := by
 have c := KK_of Tryz.f107 (by conv => lhs; cbv)
 dsimp only [KK, KxP, doO, opO, List.map_cons, List.map_nil, List.toList_toArray] at c
 exact c
theorem b107 : FnIs Tryz.prog 107 Tryz.f107 24 := ⟨Tryz.func107, by kernel_rfl⟩
def c74 := by
 have c := KK_of Tryz.f74 (by conv => lhs; cbv)
 dsimp only [KK, KxP, doO, opO, List.map_cons, List.map_nil, List.toList_toArray] at c
 exact c
theorem b74 : FnIs Tryz.prog 74 Tryz.f74 22 := ⟨Tryz.func74, by kernel_rfl⟩
def ItemExpr (g : FuncId) (first caps : List V) (l : List ExT) (us : List (List UInt8)) (i t k : Nat) (N : Nat → List (List V)) (T : List (Nat × Nat)) : Prop :=
 us.length = l.length ∧ ∀ j (h : j < l.length) (h' : j < us.length) (s : List UInt8) (J : List (List V)), s.length + us[j].length ≤ mostW → AFn Tryz.prog TabI g (first ++ [exV l[j]] ++ caps) ⟨(N j).set i (bxW i t s k) ++ J, T.set t (s.length, 1)⟩ (Same (.tup []) ⟨(N (j + 1)).set i (bxW i t (s ++ us[j]) k) ++ J, T.set t ((s ++ us[j]).length, 1)⟩)
set_option maxHeartbeats 2000000 in
theorem each_Expr {g : FuncId} {first caps : List V} {l : List ExT} {us : List (List UInt8)} {i t k n m : Nat} {N : Nat → List (List V)} {T : List (Nat × Nat)} (hg : ItemExpr g first caps l us i t k N T) (hN : ∀ j, (N j).length = n) (hi : i < n) (hm : T.length = m) (ht : t < m) (hk : k ≤ 900) (hfit : ∀ j, FitL n m (N 0) (N j)) (s : List UInt8) (hb : s.length + (comT us).length ≤ mostW) :
 AFn Tryz.prog TabI 107 [.ptr i 0, .d (.sl (l.map exD)), .func g first caps] ⟨(N 0).set i (bxW i t s k), T.set t (s.length, 1)⟩ (Same (.tup []) ⟨(N l.length).set i (bxW i t (s ++ comT us) k), T.set t ((s ++ comT us).length, 1)⟩) := by
 obtain ⟨a, ha⟩ : ∃ a, s ++ comT us = a := ⟨_, rfl⟩
 have hal := congrArg List.length ha
 rw [List.length_append] at hal
 rw [ha]
 have hul := hg.1
 have hN0 := hN 0
 refine b107.go 8 rfl fun hsm => ?_
 simp only [smw] at hsm
 simp only [W, seval, c107, hN0, hm]
 refine ARun.fitE fun hfe => ?_
 have hfe2 := hfe 2
 simp only [envS_get, lk_cons, lk_nil, Nat.reduceBEq, Nat.reduceAdd, Nat.reduceSub, cond_true, cond_false, List.length_set, hN0, hm] at hfe2
 clear hfe
 refine ARun.fits fun hf => ?_
 refine ARun.loopB (fun p : Nat × List UInt8 => (envS 24 [(0, .ptr i 0), (2, .func g first caps), (8, .d (.sl (l.map exD))), (9, .d (.int .i64 (l.length : Int))), (10, .d (.int .i64 (p.1 : Int)))], ⟨(N p.1).set i (bxW i t p.2 k), T.set t (p.2.length, 1)⟩)) (fun p => p.1 ≤ l.length ∧ p.2 ++ comB (decide (0 < p.1)) (us.drop p.1) = a) (fun p => l.length - p.1) (0, s) ⟨by simp, ha⟩ ?_ rfl ?_
 ·skip
  refine Agree.env _ ?_
  simp only [agw, seval, hN0]
 rintro ⟨j, s1⟩ ⟨h1, h2⟩ ih
 dsimp only at h1 h2 ih ⊢
 have hNj := hN j
 by_cases hlt : j < l.length
 case neg =>
  have e1 : decide ((j : Int) < (l.length : Int)) = false := decide_eq_false (by omega)
  rw [List.drop_eq_nil_of_le (by omega), comB, List.append_nil] at h2
  subst h2
  obtain rfl : j = l.length := by omega
  refine ARun.go 60 ?_
  simp only [W, seval, c107, e1]
  refine ARun.fin Tryz.func107 rfl (leftW0 hN0 hNj hm hi ht (hfit _) ?_)
  exact ⟨rfl, rfl⟩
 have e1 : decide ((j : Int) < (l.length : Int)) = true := decide_eq_true (by omega)
 have hwj := wrap_in ((j : Int) + 1) (by omega)
 have hga := List.getElem?_eq_getElem hlt
 have hlt' : j < us.length := by omega
 have hgx := hg.2 j hlt hlt'
 rw [comb_drop _ us j hlt'] at h2
 obtain ⟨x, hx⟩ : ∃ x, l[j] = x := ⟨_, rfl⟩
 obtain ⟨ux, hux⟩ : ∃ x, us[j] = x := ⟨_, rfl⟩
 rw [hx] at hga hgx
 rw [hux] at h2 hgx
 have h2l := congrArg List.length h2
 simp only [List.length_append] at h2l
 have hin : i < (N j).length := by omega
 have htm : t < T.length := by omega
 by_cases hj0 : j = 0
 ·have e2 : decide ((0 : Int) < (j : Int)) = false := decide_eq_false (by omega)
  rw [if_neg (by rw [hj0]; simp), List.nil_append, ← List.append_assoc] at h2
  refine ARun.go 60 ?_
  simp only [W, seval, c107, e1, e2, hNj, List.getElem?_map, hga, exD_eq, mapD_nil, mapD_cons]
  refine callS_of (hgx s1 _ (by omega)) ?_
  rintro _ _ ⟨rfl, rfl⟩
  obtain ⟨s3, hs3⟩ : ∃ s3, s1 ++ ux = s3 := ⟨_, rfl⟩
  rw [hs3] at h2 ⊢
  refine ARun.go 60 ?_
  simp only [W, seval, c107, hwj]
  refine ih (j + 1, s3) ⟨by dsimp only; omega, by simpa using h2⟩ (by dsimp only; omega) _ _ _ _ rfl ⟨by simp [hN], by simp [hm]⟩ (fitsW hN0 (hN _) hm hi ht hf (hfit _)) ?_
  have hN1 := hN (j + 1)
  refine AgreeF.env _ ?_
  simp only [agf, seval, hN1, hm]
  exact ⟨decide_eq_true hi, hfe2⟩
 ·have e2 : decide ((0 : Int) < (j : Int)) = true := decide_eq_true (by omega)
  rw [if_pos (decide_eq_true (by omega)), ← List.append_assoc, ← List.append_assoc] at h2
  rw [if_pos (decide_eq_true (by omega))] at h2l
  simp only [List.length_cons, List.length_nil] at h2l
  refine ARun.go 60 ?_
  simp only [W, seval, c107, e1, e2, hNj, List.getElem?_map, hga, exD_eq, mapD_nil, mapD_cons]
  refine (put1 [44, 32]).callJ hin htm hk ?_ fun s2 hs2 => ?_
  ·simp only [List.length_cons, List.length_nil]
   omega
  have hl2 := congrArg List.length hs2
  simp only [List.length_append, List.length_cons, List.length_nil] at hl2
  rw [hs2] at h2
  refine ARun.go 60 ?_
  simp only [W, seval, c107, hNj, hin]
  refine callS_of (hgx s2 _ (by omega)) ?_
  rintro _ _ ⟨rfl, rfl⟩
  obtain ⟨s3, hs3⟩ : ∃ s3, s2 ++ ux = s3 := ⟨_, rfl⟩
  rw [hs3] at h2
  rw [hs3]
  refine ARun.go 60 ?_
  simp only [W, seval, c107, hwj]
  refine ih (j + 1, s3) ⟨by dsimp only; omega, by simpa using h2⟩ (by dsimp only; omega) _ _ _ _ rfl ⟨by simp [hN], by simp [hm]⟩ (fitsW hN0 (hN _) hm hi ht hf (hfit _)) ?_
  have hN1 := hN (j + 1)
  refine AgreeF.env _ ?_
  simp only [agf, seval, hN1, hm]
  exact ⟨decide_eq_true hi, hfe2⟩
set_option maxHeartbeats 2000000 in
theorem list_Expr {g : FuncId} {first caps : List V} {l : List ExT} {us : List (List UInt8)} {i t k n m : Nat} {N : Nat → List (List V)} {T : List (Nat × Nat)} (hg : ItemExpr g first caps l us i t k N T) (hN : ∀ j, (N j).length = n) (hi : i < n) (hm : T.length = m) (ht : t < m) (hk : k ≤ 900) (hfit : ∀ j, FitL n m (N 0) (N j)) (o e s : List UInt8) (hb : s.length + (o ++ comT us ++ e).length ≤ mostW) :
 AFn Tryz.prog TabI 74 [.ptr i 0, .d (.str o), .d (.sl (l.map exD)), .func g first caps, .d (.str e)] ⟨(N 0).set i (bxW i t s k), T.set t (s.length, 1)⟩ (Same (.tup []) ⟨(N l.length).set i (bxW i t (s ++ (o ++ comT us ++ e)) k), T.set t ((s ++ (o ++ comT us ++ e)).length, 1)⟩) := by
 obtain ⟨a, ha⟩ : ∃ a, s ++ (o ++ comT us ++ e) = a := ⟨_, rfl⟩
 rw [ha]
 simp only [List.length_append] at hb
 have hN0 := hN 0
 have hNl := hN l.length
 have hin : i < (N 0).length := by omega
 have htm : t < T.length := by omega
 refine b74.go 12 rfl fun hsm => ?_
 simp only [smw] at hsm
 simp only [W, seval, c74, hN0, hm, mapD_nil, mapD_cons]
 refine (put1 o).call0 hin htm hk ?_ fun s1 hs1 => ?_
 ·omega
 have hl1 := congrArg List.length hs1
 simp only [List.length_append] at hl1
 refine ARun.go 12 ?_
 simp only [W, seval, c74, hN0]
 refine callS_of (each_Expr hg hN hi hm ht hk hfit s1 (by omega)) ?_
 rintro _ _ ⟨rfl, rfl⟩
 obtain ⟨s2, hs2⟩ : ∃ s2, s1 ++ comT us = s2 := ⟨_, rfl⟩
 rw [hs2]
 have hl2 := congrArg List.length hs2
 simp only [List.length_append] at hl2
 refine ARun.go 12 ?_
 simp only [W, seval, c74, hNl, mapD_nil, mapD_cons]
 refine (put1 e).call0 (by omega) htm hk ?_ fun s3 hs3 => ?_
 ·omega
 refine ARun.go 12 ?_
 simp only [W, seval, c74, hNl, mapD_nil, mapD_cons]
 refine ARun.fin Tryz.func74 rfl (leftW0 hN0 hNl hm hi ht (hfit _) ?_)
 subst hs1
 subst hs2
 subst hs3
 subst ha
 exact ⟨rfl, by simp⟩
theorem itemExpr {g : FuncId} {l : List ExT} {tx : ExT → List UInt8} (hg : ∀ x ∈ l, PW g [exV x] fun _ => tx x) {i t k : Nat} {B : List (List V)} {T : List (Nat × Nat)} (hi : i < B.length) (ht : t < T.length) (hk : k ≤ 900) : ItemExpr g [.ptr i 0] [] l (l.map tx) i t k (fun _ => B) T := ⟨by simp, fun j h h' s J hs => by
 rw [List.getElem_map] at hs ⊢
 have := (hg l[j] (List.getElem_mem h)).fn (J := J) (K := []) hi ht hk hs
 rw [List.append_nil, List.append_nil] at this
 exact this⟩
theorem list_Expr_pl {g : FuncId} {l : List ExT} {tx : ExT → List UInt8} (hg : ∀ x ∈ l, PW g [exV x] fun _ => tx x) (o e : List UInt8) : PL 74 (fun i => [.d (.str o), .d (.sl (l.map exD)), .func g [.ptr i 0] [], .d (.str e)]) fun _ => o ++ comT (l.map tx) ++ e :=
 fun i t s k B T hi ht hk hb => list_Expr (N := fun _ => B) (itemExpr hg hi ht hk) (fun _ => rfl) hi rfl ht hk (fun _ => .refl _ _ _) o e s hb
theorem each_Expr_pl {g : FuncId} {l : List ExT} {tx : ExT → List UInt8} (hg : ∀ x ∈ l, PW g [exV x] fun _ => tx x) : PL 107 (fun i => [.d (.sl (l.map exD)), .func g [.ptr i 0] []]) fun _ => comT (l.map tx) :=
 fun i t s k B T hi ht hk hb => each_Expr (N := fun _ => B) (itemExpr hg hi ht hk) (fun _ => rfl) hi rfl ht hk (fun _ => .refl _ _ _) s hb
def c86 := by
 have c := KK_of Tryz.f86 (by conv => lhs; cbv)
 dsimp only [KK, KxP, doO, opO, List.map_cons, List.map_nil, List.toList_toArray] at c
 exact c
theorem b86 : FnIs Tryz.prog 86 Tryz.f86 24 := ⟨Tryz.func86, by kernel_rfl⟩
def c52 := by
 have c := KK_of Tryz.f52 (by conv => lhs; cbv)
 dsimp only [KK, KxP, doO, opO, List.map_cons, List.map_nil, List.toList_toArray] at c
 exact c
theorem b52 : FnIs Tryz.prog 52 Tryz.f52 22 := ⟨Tryz.func52, by kernel_rfl⟩
def ItemType (g : FuncId) (first caps : List V) (l : List TyT) (us : List (List UInt8)) (i t k : Nat) (N : Nat → List (List V)) (T : List (Nat × Nat)) : Prop :=
 us.length = l.length ∧ ∀ j (h : j < l.length) (h' : j < us.length) (s : List UInt8) (J : List (List V)), s.length + us[j].length ≤ mostW → AFn Tryz.prog TabI g (first ++ [tyV l[j]] ++ caps) ⟨(N j).set i (bxW i t s k) ++ J, T.set t (s.length, 1)⟩ (Same (.tup []) ⟨(N (j + 1)).set i (bxW i t (s ++ us[j]) k) ++ J, T.set t ((s ++ us[j]).length, 1)⟩)
set_option maxHeartbeats 2000000 in
theorem each_Type {g : FuncId} {first caps : List V} {l : List TyT} {us : List (List UInt8)} {i t k n m : Nat} {N : Nat → List (List V)} {T : List (Nat × Nat)} (hg : ItemType g first caps l us i t k N T) (hN : ∀ j, (N j).length = n) (hi : i < n) (hm : T.length = m) (ht : t < m) (hk : k ≤ 900) (hfit : ∀ j, FitL n m (N 0) (N j)) (s : List UInt8) (hb : s.length + (comT us).length ≤ mostW) :
 AFn Tryz.prog TabI 86 [.ptr i 0, .d (.sl (l.map tyD)), .func g first caps] ⟨(N 0).set i (bxW i t s k), T.set t (s.length, 1)⟩ (Same (.tup []) ⟨(N l.length).set i (bxW i t (s ++ comT us) k), T.set t ((s ++ comT us).length, 1)⟩) := by
 obtain ⟨a, ha⟩ : ∃ a, s ++ comT us = a := ⟨_, rfl⟩
 have hal := congrArg List.length ha
 rw [List.length_append] at hal
 rw [ha]
 have hul := hg.1
 have hN0 := hN 0
 refine b86.go 8 rfl fun hsm => ?_
 simp only [smw] at hsm
 simp only [W, seval, c86, hN0, hm]
 refine ARun.fitE fun hfe => ?_
 have hfe2 := hfe 2
 simp only [envS_get, lk_cons, lk_nil, Nat.reduceBEq, Nat.reduceAdd, Nat.reduceSub, cond_true, cond_false, List.length_set, hN0, hm] at hfe2
 clear hfe
 refine ARun.fits fun hf => ?_
 refine ARun.loopB (fun p : Nat × List UInt8 => (envS 24 [(0, .ptr i 0), (2, .func g first caps), (8, .d (.sl (l.map tyD))), (9, .d (.int .i64 (l.length : Int))), (10, .d (.int .i64 (p.1 : Int)))], ⟨(N p.1).set i (bxW i t p.2 k), T.set t (p.2.length, 1)⟩)) (fun p => p.1 ≤ l.length ∧ p.2 ++ comB (decide (0 < p.1)) (us.drop p.1) = a) (fun p => l.length - p.1) (0, s) ⟨by simp, ha⟩ ?_ rfl ?_
 ·skip
  refine Agree.env _ ?_
  simp only [agw, seval, hN0]
 rintro ⟨j, s1⟩ ⟨h1, h2⟩ ih
 dsimp only at h1 h2 ih ⊢
 have hNj := hN j
 by_cases hlt : j < l.length
 case neg =>
  have e1 : decide ((j : Int) < (l.length : Int)) = false := decide_eq_false (by omega)
  rw [List.drop_eq_nil_of_le (by omega), comB, List.append_nil] at h2
  subst h2
  obtain rfl : j = l.length := by omega
  refine ARun.go 60 ?_
  simp only [W, seval, c86, e1]
  refine ARun.fin Tryz.func86 rfl (leftW0 hN0 hNj hm hi ht (hfit _) ?_)
  exact ⟨rfl, rfl⟩
 have e1 : decide ((j : Int) < (l.length : Int)) = true := decide_eq_true (by omega)
 have hwj := wrap_in ((j : Int) + 1) (by omega)
 have hga := List.getElem?_eq_getElem hlt
 have hlt' : j < us.length := by omega
 have hgx := hg.2 j hlt hlt'
 rw [comb_drop _ us j hlt'] at h2
 obtain ⟨x, hx⟩ : ∃ x, l[j] = x := ⟨_, rfl⟩
 obtain ⟨ux, hux⟩ : ∃ x, us[j] = x := ⟨_, rfl⟩
 rw [hx] at hga hgx
 rw [hux] at h2 hgx
 have h2l := congrArg List.length h2
 simp only [List.length_append] at h2l
 have hin : i < (N j).length := by omega
 have htm : t < T.length := by omega
 by_cases hj0 : j = 0
 ·have e2 : decide ((0 : Int) < (j : Int)) = false := decide_eq_false (by omega)
  rw [if_neg (by rw [hj0]; simp), List.nil_append, ← List.append_assoc] at h2
  refine ARun.go 60 ?_
  simp only [W, seval, c86, e1, e2, hNj, List.getElem?_map, hga, tyD_eq, mapD_nil, mapD_cons]
  refine callS_of (hgx s1 _ (by omega)) ?_
  rintro _ _ ⟨rfl, rfl⟩
  obtain ⟨s3, hs3⟩ : ∃ s3, s1 ++ ux = s3 := ⟨_, rfl⟩
  rw [hs3] at h2 ⊢
  refine ARun.go 60 ?_
  simp only [W, seval, c86, hwj]
  refine ih (j + 1, s3) ⟨by dsimp only; omega, by simpa using h2⟩ (by dsimp only; omega) _ _ _ _ rfl ⟨by simp [hN], by simp [hm]⟩ (fitsW hN0 (hN _) hm hi ht hf (hfit _)) ?_
  have hN1 := hN (j + 1)
  refine AgreeF.env _ ?_
  simp only [agf, seval, hN1, hm]
  exact ⟨decide_eq_true hi, hfe2⟩
 ·have e2 : decide ((0 : Int) < (j : Int)) = true := decide_eq_true (by omega)
  rw [if_pos (decide_eq_true (by omega)), ← List.append_assoc, ← List.append_assoc] at h2
  rw [if_pos (decide_eq_true (by omega))] at h2l
  simp only [List.length_cons, List.length_nil] at h2l
  refine ARun.go 60 ?_
  simp only [W, seval, c86, e1, e2, hNj, List.getElem?_map, hga, tyD_eq, mapD_nil, mapD_cons]
  refine (put1 [44, 32]).callJ hin htm hk ?_ fun s2 hs2 => ?_
  ·simp only [List.length_cons, List.length_nil]
   omega
  have hl2 := congrArg List.length hs2
  simp only [List.length_append, List.length_cons, List.length_nil] at hl2
  rw [hs2] at h2
  refine ARun.go 60 ?_
  simp only [W, seval, c86, hNj, hin]
  refine callS_of (hgx s2 _ (by omega)) ?_
  rintro _ _ ⟨rfl, rfl⟩
  obtain ⟨s3, hs3⟩ : ∃ s3, s2 ++ ux = s3 := ⟨_, rfl⟩
  rw [hs3] at h2
  rw [hs3]
  refine ARun.go 60 ?_
  simp only [W, seval, c86, hwj]
  refine ih (j + 1, s3) ⟨by dsimp only; omega, by simpa using h2⟩ (by dsimp only; omega) _ _ _ _ rfl ⟨by simp [hN], by simp [hm]⟩ (fitsW hN0 (hN _) hm hi ht hf (hfit _)) ?_
  have hN1 := hN (j + 1)
  refine AgreeF.env _ ?_
  simp only [agf, seval, hN1, hm]
  exact ⟨decide_eq_true hi, hfe2⟩
set_option maxHeartbeats 2000000 in
theorem list_Type {g : FuncId} {first caps : List V} {l : List TyT} {us : List (List UInt8)} {i t k n m : Nat} {N : Nat → List (List V)} {T : List (Nat × Nat)} (hg : ItemType g first caps l us i t k N T) (hN : ∀ j, (N j).length = n) (hi : i < n) (hm : T.length = m) (ht : t < m) (hk : k ≤ 900) (hfit : ∀ j, FitL n m (N 0) (N j)) (o e s : List UInt8) (hb : s.length + (o ++ comT us ++ e).length ≤ mostW) :
 AFn Tryz.prog TabI 52 [.ptr i 0, .d (.str o), .d (.sl (l.map tyD)), .func g first caps, .d (.str e)] ⟨(N 0).set i (bxW i t s k), T.set t (s.length, 1)⟩ (Same (.tup []) ⟨(N l.length).set i (bxW i t (s ++ (o ++ comT us ++ e)) k), T.set t ((s ++ (o ++ comT us ++ e)).length, 1)⟩) := by
 obtain ⟨a, ha⟩ : ∃ a, s ++ (o ++ comT us ++ e) = a := ⟨_, rfl⟩
 rw [ha]
 simp only [List.length_append] at hb
 have hN0 := hN 0
 have hNl := hN l.length
 have hin : i < (N 0).length := by omega
 have htm : t < T.length := by omega
 refine b52.go 12 rfl fun hsm => ?_
 simp only [smw] at hsm
 simp only [W, seval, c52, hN0, hm, mapD_nil, mapD_cons]
 refine (put1 o).call0 hin htm hk ?_ fun s1 hs1 => ?_
 ·omega
 have hl1 := congrArg List.length hs1
 simp only [List.length_append] at hl1
 refine ARun.go 12 ?_
 simp only [W, seval, c52, hN0]
 refine callS_of (each_Type hg hN hi hm ht hk hfit s1 (by omega)) ?_
 rintro _ _ ⟨rfl, rfl⟩
 obtain ⟨s2, hs2⟩ : ∃ s2, s1 ++ comT us = s2 := ⟨_, rfl⟩
 rw [hs2]
 have hl2 := congrArg List.length hs2
 simp only [List.length_append] at hl2
 refine ARun.go 12 ?_
 simp only [W, seval, c52, hNl, mapD_nil, mapD_cons]
 refine (put1 e).call0 (by omega) htm hk ?_ fun s3 hs3 => ?_
 ·omega
 refine ARun.go 12 ?_
 simp only [W, seval, c52, hNl, mapD_nil, mapD_cons]
 refine ARun.fin Tryz.func52 rfl (leftW0 hN0 hNl hm hi ht (hfit _) ?_)
 subst hs1
 subst hs2
 subst hs3
 subst ha
 exact ⟨rfl, by simp⟩
theorem itemType {g : FuncId} {l : List TyT} {tx : TyT → List UInt8} (hg : ∀ x ∈ l, PW g [tyV x] fun _ => tx x) {i t k : Nat} {B : List (List V)} {T : List (Nat × Nat)} (hi : i < B.length) (ht : t < T.length) (hk : k ≤ 900) : ItemType g [.ptr i 0] [] l (l.map tx) i t k (fun _ => B) T := ⟨by simp, fun j h h' s J hs => by
 rw [List.getElem_map] at hs ⊢
 have := (hg l[j] (List.getElem_mem h)).fn (J := J) (K := []) hi ht hk hs
 rw [List.append_nil, List.append_nil] at this
 exact this⟩
theorem list_Type_pl {g : FuncId} {l : List TyT} {tx : TyT → List UInt8} (hg : ∀ x ∈ l, PW g [tyV x] fun _ => tx x) (o e : List UInt8) : PL 52 (fun i => [.d (.str o), .d (.sl (l.map tyD)), .func g [.ptr i 0] [], .d (.str e)]) fun _ => o ++ comT (l.map tx) ++ e :=
 fun i t s k B T hi ht hk hb => list_Type (N := fun _ => B) (itemType hg hi ht hk) (fun _ => rfl) hi rfl ht hk (fun _ => .refl _ _ _) o e s hb
def c85 := by
 have c := KK_of Tryz.f85 (by conv => lhs; cbv)
 dsimp only [KK, KxP, doO, opO, List.map_cons, List.map_nil, List.toList_toArray] at c
 exact c
theorem b85 : FnIs Tryz.prog 85 Tryz.f85 24 := ⟨Tryz.func85, by kernel_rfl⟩
def c51 := by
 have c := KK_of Tryz.f51 (by conv => lhs; cbv)
 dsimp only [KK, KxP, doO, opO, List.map_cons, List.map_nil, List.toList_toArray] at c
 exact c
theorem b51 : FnIs Tryz.prog 51 Tryz.f51 22 := ⟨Tryz.func51, by kernel_rfl⟩
def ItemParam (g : FuncId) (first caps : List V) (l : List PaT) (us : List (List UInt8)) (i t k : Nat) (N : Nat → List (List V)) (T : List (Nat × Nat)) : Prop :=
 us.length = l.length ∧ ∀ j (h : j < l.length) (h' : j < us.length) (s : List UInt8) (J : List (List V)), s.length + us[j].length ≤ mostW → AFn Tryz.prog TabI g (first ++ [paV l[j]] ++ caps) ⟨(N j).set i (bxW i t s k) ++ J, T.set t (s.length, 1)⟩ (Same (.tup []) ⟨(N (j + 1)).set i (bxW i t (s ++ us[j]) k) ++ J, T.set t ((s ++ us[j]).length, 1)⟩)
set_option maxHeartbeats 2000000 in
theorem each_Param {g : FuncId} {first caps : List V} {l : List PaT} {us : List (List UInt8)} {i t k n m : Nat} {N : Nat → List (List V)} {T : List (Nat × Nat)} (hg : ItemParam g first caps l us i t k N T) (hN : ∀ j, (N j).length = n) (hi : i < n) (hm : T.length = m) (ht : t < m) (hk : k ≤ 900) (hfit : ∀ j, FitL n m (N 0) (N j)) (s : List UInt8) (hb : s.length + (comT us).length ≤ mostW) :
 AFn Tryz.prog TabI 85 [.ptr i 0, .d (.sl (l.map paD)), .func g first caps] ⟨(N 0).set i (bxW i t s k), T.set t (s.length, 1)⟩ (Same (.tup []) ⟨(N l.length).set i (bxW i t (s ++ comT us) k), T.set t ((s ++ comT us).length, 1)⟩) := by
 obtain ⟨a, ha⟩ : ∃ a, s ++ comT us = a := ⟨_, rfl⟩
 have hal := congrArg List.length ha
 rw [List.length_append] at hal
 rw [ha]
 have hul := hg.1
 have hN0 := hN 0
 refine b85.go 8 rfl fun hsm => ?_
 simp only [smw] at hsm
 simp only [W, seval, c85, hN0, hm]
 refine ARun.fitE fun hfe => ?_
 have hfe2 := hfe 2
 simp only [envS_get, lk_cons, lk_nil, Nat.reduceBEq, Nat.reduceAdd, Nat.reduceSub, cond_true, cond_false, List.length_set, hN0, hm] at hfe2
 clear hfe
 refine ARun.fits fun hf => ?_
 refine ARun.loopB (fun p : Nat × List UInt8 => (envS 24 [(0, .ptr i 0), (2, .func g first caps), (8, .d (.sl (l.map paD))), (9, .d (.int .i64 (l.length : Int))), (10, .d (.int .i64 (p.1 : Int)))], ⟨(N p.1).set i (bxW i t p.2 k), T.set t (p.2.length, 1)⟩)) (fun p => p.1 ≤ l.length ∧ p.2 ++ comB (decide (0 < p.1)) (us.drop p.1) = a) (fun p => l.length - p.1) (0, s) ⟨by simp, ha⟩ ?_ rfl ?_
 ·skip
  refine Agree.env _ ?_
  simp only [agw, seval, hN0]
 rintro ⟨j, s1⟩ ⟨h1, h2⟩ ih
 dsimp only at h1 h2 ih ⊢
 have hNj := hN j
 by_cases hlt : j < l.length
 case neg =>
  have e1 : decide ((j : Int) < (l.length : Int)) = false := decide_eq_false (by omega)
  rw [List.drop_eq_nil_of_le (by omega), comB, List.append_nil] at h2
  subst h2
  obtain rfl : j = l.length := by omega
  refine ARun.go 60 ?_
  simp only [W, seval, c85, e1]
  refine ARun.fin Tryz.func85 rfl (leftW0 hN0 hNj hm hi ht (hfit _) ?_)
  exact ⟨rfl, rfl⟩
 have e1 : decide ((j : Int) < (l.length : Int)) = true := decide_eq_true (by omega)
 have hwj := wrap_in ((j : Int) + 1) (by omega)
 have hga := List.getElem?_eq_getElem hlt
 have hlt' : j < us.length := by omega
 have hgx := hg.2 j hlt hlt'
 rw [comb_drop _ us j hlt'] at h2
 obtain ⟨x, hx⟩ : ∃ x, l[j] = x := ⟨_, rfl⟩
 obtain ⟨ux, hux⟩ : ∃ x, us[j] = x := ⟨_, rfl⟩
 rw [hx] at hga hgx
 rw [hux] at h2 hgx
 have h2l := congrArg List.length h2
 simp only [List.length_append] at h2l
 have hin : i < (N j).length := by omega
 have htm : t < T.length := by omega
 by_cases hj0 : j = 0
 ·have e2 : decide ((0 : Int) < (j : Int)) = false := decide_eq_false (by omega)
  rw [if_neg (by rw [hj0]; simp), List.nil_append, ← List.append_assoc] at h2
  refine ARun.go 60 ?_
  simp only [W, seval, c85, e1, e2, hNj, List.getElem?_map, hga, paD_eq, mapD_nil, mapD_cons]
  refine callS_of (hgx s1 _ (by omega)) ?_
  rintro _ _ ⟨rfl, rfl⟩
  obtain ⟨s3, hs3⟩ : ∃ s3, s1 ++ ux = s3 := ⟨_, rfl⟩
  rw [hs3] at h2 ⊢
  refine ARun.go 60 ?_
  simp only [W, seval, c85, hwj]
  refine ih (j + 1, s3) ⟨by dsimp only; omega, by simpa using h2⟩ (by dsimp only; omega) _ _ _ _ rfl ⟨by simp [hN], by simp [hm]⟩ (fitsW hN0 (hN _) hm hi ht hf (hfit _)) ?_
  have hN1 := hN (j + 1)
  refine AgreeF.env _ ?_
  simp only [agf, seval, hN1, hm]
  exact ⟨decide_eq_true hi, hfe2⟩
 ·have e2 : decide ((0 : Int) < (j : Int)) = true := decide_eq_true (by omega)
  rw [if_pos (decide_eq_true (by omega)), ← List.append_assoc, ← List.append_assoc] at h2
  rw [if_pos (decide_eq_true (by omega))] at h2l
  simp only [List.length_cons, List.length_nil] at h2l
  refine ARun.go 60 ?_
  simp only [W, seval, c85, e1, e2, hNj, List.getElem?_map, hga, paD_eq, mapD_nil, mapD_cons]
  refine (put1 [44, 32]).callJ hin htm hk ?_ fun s2 hs2 => ?_
  ·simp only [List.length_cons, List.length_nil]
   omega
  have hl2 := congrArg List.length hs2
  simp only [List.length_append, List.length_cons, List.length_nil] at hl2
  rw [hs2] at h2
  refine ARun.go 60 ?_
  simp only [W, seval, c85, hNj, hin]
  refine callS_of (hgx s2 _ (by omega)) ?_
  rintro _ _ ⟨rfl, rfl⟩
  obtain ⟨s3, hs3⟩ : ∃ s3, s2 ++ ux = s3 := ⟨_, rfl⟩
  rw [hs3] at h2
  rw [hs3]
  refine ARun.go 60 ?_
  simp only [W, seval, c85, hwj]
  refine ih (j + 1, s3) ⟨by dsimp only; omega, by simpa using h2⟩ (by dsimp only; omega) _ _ _ _ rfl ⟨by simp [hN], by simp [hm]⟩ (fitsW hN0 (hN _) hm hi ht hf (hfit _)) ?_
  have hN1 := hN (j + 1)
  refine AgreeF.env _ ?_
  simp only [agf, seval, hN1, hm]
  exact ⟨decide_eq_true hi, hfe2⟩
set_option maxHeartbeats 2000000 in
theorem list_Param {g : FuncId} {first caps : List V} {l : List PaT} {us : List (List UInt8)} {i t k n m : Nat} {N : Nat → List (List V)} {T : List (Nat × Nat)} (hg : ItemParam g first caps l us i t k N T) (hN : ∀ j, (N j).length = n) (hi : i < n) (hm : T.length = m) (ht : t < m) (hk : k ≤ 900) (hfit : ∀ j, FitL n m (N 0) (N j)) (o e s : List UInt8) (hb : s.length + (o ++ comT us ++ e).length ≤ mostW) :
 AFn Tryz.prog TabI 51 [.ptr i 0, .d (.str o), .d (.sl (l.map paD)), .func g first caps, .d (.str e)] ⟨(N 0).set i (bxW i t s k), T.set t (s.length, 1)⟩ (Same (.tup []) ⟨(N l.length).set i (bxW i t (s ++ (o ++ comT us ++ e)) k), T.set t ((s ++ (o ++ comT us ++ e)).length, 1)⟩) := by
 obtain ⟨a, ha⟩ : ∃ a, s ++ (o ++ comT us ++ e) = a := ⟨_, rfl⟩
 rw [ha]
 simp only [List.length_append] at hb
 have hN0 := hN 0
 have hNl := hN l.length
 have hin : i < (N 0).length := by omega
 have htm : t < T.length := by omega
 refine b51.go 12 rfl fun hsm => ?_
 simp only [smw] at hsm
 simp only [W, seval, c51, hN0, hm, mapD_nil, mapD_cons]
 refine (put1 o).call0 hin htm hk ?_ fun s1 hs1 => ?_
 ·omega
 have hl1 := congrArg List.length hs1
 simp only [List.length_append] at hl1
 refine ARun.go 12 ?_
 simp only [W, seval, c51, hN0]
 refine callS_of (each_Param hg hN hi hm ht hk hfit s1 (by omega)) ?_
 rintro _ _ ⟨rfl, rfl⟩
 obtain ⟨s2, hs2⟩ : ∃ s2, s1 ++ comT us = s2 := ⟨_, rfl⟩
 rw [hs2]
 have hl2 := congrArg List.length hs2
 simp only [List.length_append] at hl2
 refine ARun.go 12 ?_
 simp only [W, seval, c51, hNl, mapD_nil, mapD_cons]
 refine (put1 e).call0 (by omega) htm hk ?_ fun s3 hs3 => ?_
 ·omega
 refine ARun.go 12 ?_
 simp only [W, seval, c51, hNl, mapD_nil, mapD_cons]
 refine ARun.fin Tryz.func51 rfl (leftW0 hN0 hNl hm hi ht (hfit _) ?_)
 subst hs1
 subst hs2
 subst hs3
 subst ha
 exact ⟨rfl, by simp⟩
theorem itemParam {g : FuncId} {l : List PaT} {tx : PaT → List UInt8} (hg : ∀ x ∈ l, PW g [paV x] fun _ => tx x) {i t k : Nat} {B : List (List V)} {T : List (Nat × Nat)} (hi : i < B.length) (ht : t < T.length) (hk : k ≤ 900) : ItemParam g [.ptr i 0] [] l (l.map tx) i t k (fun _ => B) T := ⟨by simp, fun j h h' s J hs => by
 rw [List.getElem_map] at hs ⊢
 have := (hg l[j] (List.getElem_mem h)).fn (J := J) (K := []) hi ht hk hs
 rw [List.append_nil, List.append_nil] at this
 exact this⟩
theorem list_Param_pl {g : FuncId} {l : List PaT} {tx : PaT → List UInt8} (hg : ∀ x ∈ l, PW g [paV x] fun _ => tx x) (o e : List UInt8) : PL 51 (fun i => [.d (.str o), .d (.sl (l.map paD)), .func g [.ptr i 0] [], .d (.str e)]) fun _ => o ++ comT (l.map tx) ++ e :=
 fun i t s k B T hi ht hk hb => list_Param (N := fun _ => B) (itemParam hg hi ht hk) (fun _ => rfl) hi rfl ht hk (fun _ => .refl _ _ _) o e s hb
end Go.Proofs.YtfaoamebphckbaaGreatDoor
namespace Go.Proofs
open Go.Shelf
def Tryz.lays105_ren : Go.Shelf.Ren := ⟨fun | 105 => 145 | 212 => 166 | 99 => 167 | 165 => 168 | 166 => 84 | 170 => 54 | 169 => 47 | 263 => 179 | 264 => 180 | 206 => 181 | 240 => 114 | 241 => 182 | 276 => 144 | 277 => 185 | n => n, fun | 9 => 9 | 3 => 3 | 4 => 4 | 20 => 20 | 0 => 0 | 46 => 190 | 109 => 195 | 5 => 5 | 72 => 52 | 76 => 135 | 51 => 188 | 146 => 206 | 53 => 39 | 148 => 208 | 70 => 50 | 37 => 28 | 75 => 134 | 127 => 128 | 164 => 176 | 80 => 70 | n => n, fun | n => n⟩
theorem Tryz.lays105 : Go.Proofs.Lays.n105 Tryz.prog Tryz.lays105_ren := {
 mixed := by kernel_rfl
 f99 := Tryz.func167.trans (congrArg some (by kernel_rfl))
 f105 := Tryz.func145.trans (congrArg some (by kernel_rfl))
 f165 := Tryz.func168.trans (congrArg some (by kernel_rfl))
 f166 := Tryz.func84.trans (congrArg some (by kernel_rfl))
 f169 := Tryz.func47.trans (congrArg some (by kernel_rfl))
 f170 := Tryz.func54.trans (congrArg some (by kernel_rfl))
 f206 := Tryz.func181.trans (congrArg some (by kernel_rfl))
 f212 := Tryz.func166.trans (congrArg some (by kernel_rfl))
 f240 := Tryz.func114.trans (congrArg some (by kernel_rfl))
 f241 := Tryz.func182.trans (congrArg some (by kernel_rfl))
 f263 := Tryz.func179.trans (congrArg some (by kernel_rfl))
 f264 := Tryz.func180.trans (congrArg some (by kernel_rfl))
 f276 := Tryz.func144.trans (congrArg some (by kernel_rfl))
 f277 := Tryz.func185.trans (congrArg some (by kernel_rfl))
 t0 := Tryz.underlying0
 a0 := Tryz.isAgg0
 z0 := Tryz.sizeOf0
 v0 := Tryz.zeroValue0
 t3 := Tryz.underlying3
 a3 := Tryz.isAgg3
 z3 := Tryz.sizeOf3
 v3 := Tryz.zeroValue3
 t4 := Tryz.underlying4
 a4 := Tryz.isAgg4
 z4 := Tryz.sizeOf4
 v4 := Tryz.zeroValue4
 t5 := Tryz.underlying5
 a5 := Tryz.isAgg5
 z5 := Tryz.sizeOf5
 v5 := Tryz.zeroValue5
 t9 := Tryz.underlying9
 a9 := Tryz.isAgg9
 z9 := Tryz.sizeOf9
 v9 := Tryz.zeroValue9
 t20 := Tryz.underlying20
 a20 := Tryz.isAgg20
 z20 := Tryz.sizeOf20
 v20 := Tryz.zeroValue20
 t37 := Tryz.underlying28
 a37 := Tryz.isAgg28
 z37 := Tryz.sizeOf28
 v37 := Tryz.zeroValue28
 t46 := Tryz.underlying190
 a46 := Tryz.isAgg190
 z46 := Tryz.sizeOf190
 v46 := Tryz.zeroValue190
 t51 := Tryz.underlying188
 a51 := Tryz.isAgg188
 z51 := Tryz.sizeOf188
 v51 := Tryz.zeroValue188
 t53 := Tryz.underlying39
 a53 := Tryz.isAgg39
 z53 := Tryz.sizeOf39
 v53 := Tryz.zeroValue39
 t70 := Tryz.underlying50
 a70 := Tryz.isAgg50
 z70 := Tryz.sizeOf50
 v70 := Tryz.zeroValue50
 t72 := Tryz.underlying52
 a72 := Tryz.isAgg52
 z72 := Tryz.sizeOf52
 v72 := Tryz.zeroValue52
 t75 := Tryz.underlying134
 a75 := Tryz.isAgg134
 z75 := Tryz.sizeOf134
 v75 := Tryz.zeroValue134
 t76 := Tryz.underlying135
 a76 := Tryz.isAgg135
 z76 := Tryz.sizeOf135
 v76 := Tryz.zeroValue135
 t109 := Tryz.underlying195
 a109 := Tryz.isAgg195
 z109 := Tryz.sizeOf195
 v109 := Tryz.zeroValue195
 t127 := Tryz.underlying128
 a127 := Tryz.isAgg128
 z127 := Tryz.sizeOf128
 v127 := Tryz.zeroValue128
 t146 := Tryz.underlying206
 a146 := Tryz.isAgg206
 z146 := Tryz.sizeOf206
 v146 := Tryz.zeroValue206
 t148 := Tryz.underlying208
 a148 := Tryz.isAgg208
 z148 := Tryz.sizeOf208
 v148 := Tryz.zeroValue208
 t164 := Tryz.underlying176
 a164 := Tryz.isAgg176
 z164 := Tryz.sizeOf176
 v164 := Tryz.zeroValue176 }
theorem Tryz.Builder_Extra_105 : Builder.Extra Tryz.prog Tryz.lays105_ren := {
 sizeBuilder := by kernel_rfl
 liesBuilder := by kernel_rfl
 t5 := Tryz.underlying5
 a5 := Tryz.isAgg5
 z5 := Tryz.sizeOf5
 v5 := Tryz.zeroValue5
 infoByte := by kernel_rfl
 cellsByte := by kernel_rfl
 sizeByte := by kernel_rfl
 neB5 := by decide }
open Go.RowKit Go.Lib in
def Tryz.lays283_ren : Go.Shelf.Ren := ⟨fun | 283 => 135 | n => n, fun | 3 => 3 | 9 => 9 | 4 => 4 | n => n, fun | n => n⟩
theorem Tryz.lays283 : Go.Proofs.Lays.n283 Tryz.prog Tryz.lays283_ren := {
 mixed := by kernel_rfl
 f283 := Tryz.func135.trans (congrArg some (by kernel_rfl))
 t3 := Tryz.underlying3
 a3 := Tryz.isAgg3
 z3 := Tryz.sizeOf3
 v3 := Tryz.zeroValue3
 t4 := Tryz.underlying4
 a4 := Tryz.isAgg4
 z4 := Tryz.sizeOf4
 v4 := Tryz.zeroValue4
 t9 := Tryz.underlying9
 a9 := Tryz.isAgg9
 z9 := Tryz.sizeOf9
 v9 := Tryz.zeroValue9 }
open Go.Lib in
def Tryz.laysM284_ren : Go.Shelf.Ren := ⟨fun | 284 => 136 | 129 => 156 | 317 => 155 | 318 => 157 | n => n, fun | 53 => 39 | 3 => 3 | 212 => 187 | 0 => 0 | 4 => 4 | 46 => 190 | 5 => 5 | 9 => 9 | n => n, fun | 17 => 2 | n => n⟩
theorem Tryz.laysM284 : Go.Proofs.LaysM.n284 Tryz.prog Tryz.laysM284_ren := {
 mixed := by kernel_rfl
 f129 := Tryz.func156.trans (congrArg some (by kernel_rfl))
 f284 := Tryz.func136.trans (congrArg some (by kernel_rfl))
 f317 := Tryz.func155.trans (congrArg some (by kernel_rfl))
 f318 := Tryz.func157.trans (congrArg some (by kernel_rfl))
 t0 := Tryz.underlying0
 a0 := Tryz.isAgg0
 z0 := Tryz.sizeOf0
 v0 := Tryz.zeroValue0
 t3 := Tryz.underlying3
 a3 := Tryz.isAgg3
 z3 := Tryz.sizeOf3
 v3 := Tryz.zeroValue3
 t4 := Tryz.underlying4
 a4 := Tryz.isAgg4
 z4 := Tryz.sizeOf4
 v4 := Tryz.zeroValue4
 t5 := Tryz.underlying5
 a5 := Tryz.isAgg5
 z5 := Tryz.sizeOf5
 v5 := Tryz.zeroValue5
 t9 := Tryz.underlying9
 a9 := Tryz.isAgg9
 z9 := Tryz.sizeOf9
 v9 := Tryz.zeroValue9
 t46 := Tryz.underlying190
 a46 := Tryz.isAgg190
 z46 := Tryz.sizeOf190
 v46 := Tryz.zeroValue190
 t53 := Tryz.underlying39
 a53 := Tryz.isAgg39
 z53 := Tryz.sizeOf39
 v53 := Tryz.zeroValue39
 t212 := Tryz.underlying187
 a212 := Tryz.isAgg187
 z212 := Tryz.sizeOf187
 v212 := Tryz.zeroValue187
 g17 := by kernel_rfl
 i0 := by kernel_rfl
 i3 := by kernel_rfl
 i4 := by kernel_rfl
 i5 := by kernel_rfl
 i9 := by kernel_rfl
 i46 := by kernel_rfl
 i53 := by kernel_rfl
 i212 := by kernel_rfl
 m17 := by kernel_rfl }
open Go.Lib in
def Tryz.lays285_ren : Go.Shelf.Ren := ⟨fun | 285 => 137 | n => n, fun | 37 => 28 | 53 => 39 | 3 => 3 | 4 => 4 | 51 => 188 | 9 => 9 | 5 => 5 | 0 => 0 | n => n, fun | n => n⟩
theorem Tryz.lays285 : Go.Proofs.Lays.n285 Tryz.prog Tryz.lays285_ren := {
 mixed := by kernel_rfl
 f285 := Tryz.func137.trans (congrArg some (by kernel_rfl))
 t0 := Tryz.underlying0
 a0 := Tryz.isAgg0
 z0 := Tryz.sizeOf0
 v0 := Tryz.zeroValue0
 t3 := Tryz.underlying3
 a3 := Tryz.isAgg3
 z3 := Tryz.sizeOf3
 v3 := Tryz.zeroValue3
 t4 := Tryz.underlying4
 a4 := Tryz.isAgg4
 z4 := Tryz.sizeOf4
 v4 := Tryz.zeroValue4
 t5 := Tryz.underlying5
 a5 := Tryz.isAgg5
 z5 := Tryz.sizeOf5
 v5 := Tryz.zeroValue5
 t9 := Tryz.underlying9
 a9 := Tryz.isAgg9
 z9 := Tryz.sizeOf9
 v9 := Tryz.zeroValue9
 t37 := Tryz.underlying28
 a37 := Tryz.isAgg28
 z37 := Tryz.sizeOf28
 v37 := Tryz.zeroValue28
 t51 := Tryz.underlying188
 a51 := Tryz.isAgg188
 z51 := Tryz.sizeOf188
 v51 := Tryz.zeroValue188
 t53 := Tryz.underlying39
 a53 := Tryz.isAgg39
 z53 := Tryz.sizeOf39
 v53 := Tryz.zeroValue39 }
end Go.Proofs
namespace Go.Proofs.YtfaoamebphckbaaGreatDoor
open Go.RowKit Go.Av Go.Ab Go.Sort Go.Lib
set_option linter.unusedSimpArgs false
set_option maxRecDepth 100000
set_option linter.defProp false
def c70 := by
 have c := KK_of Tryz.f70 (by conv => lhs; cbv)
 dsimp only [KK, KxP, doO, opO, List.map_cons, List.map_nil, List.toList_toArray] at c
 exact c
theorem b70 : FnIs Tryz.prog 70 Tryz.f70 8 := ⟨Tryz.func70, by kernel_rfl⟩
def c71 := by
 have c := KK_of Tryz.f71 (by conv => lhs; cbv)
 dsimp only [KK, KxP, doO, opO, List.map_cons, List.map_nil, List.toList_toArray] at c
 exact c
theorem b71 : FnIs Tryz.prog 71 Tryz.f71 5 := ⟨Tryz.func71, by kernel_rfl⟩
def c103 := by
 have c := KK_of Tryz.f103 (by conv => lhs; cbv)
 dsimp only [KK, KxP, doO, opO, List.map_cons, List.map_nil, List.toList_toArray] at c
 exact c
theorem b103 : FnIs Tryz.prog 103 Tryz.f103 4 := ⟨Tryz.func103, by kernel_rfl⟩
theorem rep_list (x : UInt8) (c : Nat) : Lib.repeatL [x] c = List.replicate c x := by
 have := Lib.repeatL_replicate x 1 c
 rw [Nat.mul_one] at this
 exact this
theorem repeat_ab (x : UInt8) (c : Nat) (hc : c ≤ 1000) (S : Mem) : AFn Tryz.prog TabI 145 [.d (.str [x]), .d (.int .i64 (c : Int))] S (Same (.d (.str (List.replicate c x))) S) := by
 refine AFn.of_calls Tryz.func145 rfl (by kernel_rfl) fun cx w xs h1 h2 h3 hI => ?_
 have hv := h2 0 (by simp)
 have hv1 := h2 1 (by simp)
 obtain ⟨y, z, rfl⟩ : ∃ y z, xs = #[y, z] := ⟨xs[0]'(by simp at h1; omega), xs[1]'(by simp at h1; omega), by
  apply Array.ext
  ·simpa using h1
  ·intro j hj hj'
   have : j = 0 ∨ j = 1 := by simp at hj'; omega
   rcases this with rfl | rfl <;> rfl⟩
 simp at hv hv1
 cases hv with
 | d _ _ hv => cases hv with
  | str _ hl =>
   cases hv1 with
   | d _ _ hv1 => cases hv1 with
    | int _ _ =>
     refine (Any.strings_Repeat Tryz.lays105 Tryz.Builder_Extra_105 ⟨[x].toArray⟩ c w (by omega) (by show 1 * c ≤ _; omega)).mono ?_
     rintro e w' ⟨rfl, hb⟩
     refine ⟨_, _, rfl, ⟨rfl, rfl⟩, hb, .d _ _ ?_⟩
     have := DR.str (M := cx.M) (w := w') (List.replicate c x) (by simp; omega)
     rw [← rep_list x c] at this ⊢
     exact this
theorem fbool_in (b : Bool) (B : List (List V)) (T : List (Nat × Nat)) : AFn Tryz.prog TabI 103 [.d (.bool b)] ⟨B, T⟩ (Same (.d (.str (if b = true then [116, 114, 117, 101] else [102, 97, 108, 115, 101]))) ⟨B, T⟩) := by
 cases b
 ·refine b103.go 20 rfl fun _ => ?_
  simp only [W, seval, c103]
  refine ARun.ret Tryz.func103 rfl (Left.none ?_)
  exact ⟨rfl, rfl⟩
 ·refine b103.go 20 rfl fun _ => ?_
  simp only [W, seval, c103]
  refine ARun.ret Tryz.func103 rfl (Left.none ?_)
  exact ⟨rfl, rfl⟩
theorem fbool_ab (b : Bool) (B : List (List V)) (T : List (Nat × Nat)) : AFn Tryz.prog TabI 71 [.d (.bool b)] ⟨B, T⟩ (Same (.d (.str (if b = true then [116, 114, 117, 101] else [102, 97, 108, 115, 101]))) ⟨B, T⟩) := by
 refine b71.go 10 rfl fun _ => ?_
 simp only [W, seval, c71]
 refine callS_fn (fbool_in b B T) ?_
 rintro _ _ ⟨rfl, rfl⟩
 refine ARun.go 20 ?_
 simp only [W, seval, c71]
 refine ARun.ret Tryz.func71 rfl (Left.none ?_)
 exact ⟨rfl, rfl⟩
theorem pow_tab {w : World} (h : Tabs w) : Lib.TabIs Tryz.prog w "internal/strconv.uint64pow10" .u64 Lib.pow10Tab := by
 obtain ⟨t, fr, h1⟩ := h.pow
 have hg : Tryz.prog.globalNamed "internal/strconv.uint64pow10" = some 2 := by kernel_rfl
 unfold Lib.TabIs World.var?
 simp only [hg, Option.bind_some, h1]
 rfl
theorem holds_zero0 (w : World) (T : TypeId) (nd : Nat) (hs : nd ≤ 24) : Holds (fun (b : UInt8) => Value.int .u8 (b.toNat : Int)) (w.alloc (.cells Lib.zeros24 T)) w.heap.size 0 (Array.replicate nd (0 : UInt8)) := fun j hj => by
 have hj' : j < nd := by simpa using hj
 refine ⟨?_, World.frozen?_alloc_new _ _ _ _⟩
 rw [World.cell?_alloc_new, Lib.zeros24_at _ (by omega), getElem!_pos _ j hj]
 simp
theorem fin_pos0 (w : World) (o : Obj) (dk : Array UInt8) (k : Nat) : ∃ os, (putRow (fun (b : UInt8) => Value.int .u8 (b.toNat : Int)) (w.alloc o) w.heap.size 0 dk).drewN k = grow (w.drewN k) os := by
 rw [alloc_eq_grow]
 obtain ⟨os', _, e⟩ := putRow_grow_new (fun (b : UInt8) => Value.int .u8 (b.toNat : Int)) w #[o] w.heap.size 0 dk (Nat.le_refl _)
 exact ⟨os', by rw [e]; rfl⟩
set_option maxHeartbeats 6400000 in
theorem funt_in (u : Nat) (hu64 : u < 18446744073709551616) (w : World) (htab : Lib.TabIs Tryz.prog w "internal/strconv.uint64pow10" .u64 Lib.pow10Tab) :
 Calls Tryz.prog 102 #[.int .u64 u, .int .i64 10] w fun e w' => e = .returned (.string ⟨(Lib.decDigits u).toArray⟩) ∧ ∃ k os, w' = grow (w.drewN k) os := by
 by_cases hs : u < 100
 ·go_enter Tryz.func102, Tryz.ntmps102
  go_wp2_with fail
  refine (Any.internal_strconv_small Tryz.lays283 u hs _).mono ?_
  rintro e w' ⟨rfl, rfl⟩
  go_wp2
  go_ret
  exact ⟨rfl, 0, #[], by simp [World.drewN_zero]⟩
 ·have hu1 : 1 ≤ u := by omega
  have hnd20 : Lib.nDigits u ≤ 20 := by have := Lib.numDigits_eq u hu1 hu64; split at this <;> omega
  have hal : Tryz.prog.arrayLen 167 = 24 := by kernel_rfl
  have hsl1 : ∀ W, (Instr.sliceAt 167 (.pointer (some ⟨w.heap.size, 0, none⟩)) none (some (.int .i64 (Lib.nDigits u : Int))) none).run Tryz.prog W = .ok (.slice (some ⟨w.heap.size, 0, none⟩) (Lib.nDigits u) 24) W := fun W => by
   rw [run_sliceAt_array_h W 167 ⟨w.heap.size, 0, none⟩ (by kernel_rfl) .i64 (Lib.nDigits u : Int) (by omega) (by rw [hal]; omega)]
   go_simp
  have hH0 := holds_zero0 w 167 (Lib.nDigits u) (by omega)
  have hfmt := Any.internal_strconv_formatBase10 Tryz.lays285 w.heap.size 0 24 u (Array.replicate (Lib.nDigits u) 0) (w.alloc (.cells Lib.zeros24 167)) hH0 (by rw [Array.size_replicate]; exact Lib.lt_pow_nDigits u) hu64 (by rw [Array.size_replicate]; omega)
  rw [Array.size_replicate] at hfmt
  have HH0 := Lib.hid hH0
  clear hH0 hal
  go_enter Tryz.func102, Tryz.ntmps102
  have hd : decide ((u : Int) < 100) = false := decide_eq_false (by omega)
  go_wp2_with fail
  refine (Any.internal_strconv_numDigits Tryz.laysM284 u hu1 hu64 _ (Lib.tabIs_alloc htab _)).mono ?_
  rintro e w' ⟨rfl, rfl⟩
  go_wp2_with fail
  refine hfmt.mono ?_
  rintro e w' ⟨rfl, k, v', dk, rfl, hF⟩
  have hcv : (convert 28 9 (.slice (some ⟨w.heap.size, 0, none⟩) (Lib.nDigits u) 24)).run Tryz.prog ((putRow (fun (b : UInt8) => Value.int .u8 (b.toNat : Int)) (w.alloc (.cells Lib.zeros24 167)) w.heap.size 0 dk).drewN k) = .ok (.string ⟨(Lib.decDigits u).toArray⟩) ((putRow (fun (b : UInt8) => Value.int .u8 (b.toNat : Int)) (w.alloc (.cells Lib.zeros24 167)) w.heap.size 0 dk).drewN k) := by
   have h := run_convert_bytes_back (P := Tryz.prog) ((putRow (fun (b : UInt8) => Value.int .u8 (b.toNat : Int)) (w.alloc (.cells Lib.zeros24 167)) w.heap.size 0 dk).drewN k) 28 9 5 ⟨w.heap.size, 0, none⟩ 24 (Lib.decDigits u) Tryz.underlying28 Tryz.underlying5 Tryz.underlying9 (fun j hj => by
    rw [Lib.row_is_numeral hF j hj, Lib.add_plain, World.cell?_drewN]
    exact cell?_putRow (fun (b : UInt8) => Value.int .u8 (b.toNat : Int)) _ w.heap.size 0 _ dk HH0.out (by rw [hF.size, Array.size_replicate]) j (by rw [hF.size]; rw [Lib.decDigits_length] at hj; exact hj))
   rw [Lib.decDigits_length] at h
   exact h
  go_wp2
  go_ret
  obtain ⟨os, eo⟩ := fin_pos0 w (.cells Lib.zeros24 167) dk k
  exact ⟨rfl, k, os, eo⟩
theorem dig_dec : ∀ (f u : Nat), u < 10 ^ (f + 1) → digF f u = Lib.decDigits u
 | 0, u, h => by
  have h : u < 10 := by simpa using h
  rw [Lib.decDigits, dif_pos h, digF, Nat.mod_eq_of_lt h]
 | f + 1, u, h => by
  rw [digF, Lib.decDigits]
  by_cases h0 : u < 10
  ·rw [if_pos h0, dif_pos h0]
  ·rw [if_neg h0, dif_neg h0, dig_dec f (u / 10) (by rw [Nat.pow_succ] at h; omega)]
theorem dec_len (u : Nat) (h : u < 18446744073709551616) : (Lib.decDigits u).length ≤ 20 := by
 rw [Lib.decDigits_length]
 exact Lib.nDigits_le20 u h
theorem funt_run (i : Int) (h0 : 0 ≤ i) (h1 : i ≤ 18446744073709551615) (B : List (List V)) (T : List (Nat × Nat)) : AFn Tryz.prog TabI 102 [.d (.int .u64 i), .d (.int .i64 10)] ⟨B, T⟩ (Same (.d (.str (digF 24 i.toNat))) ⟨B, T⟩) := by
 refine AFn.of_calls Tryz.func102 (by kernel_rfl) (by kernel_rfl) fun cx w xs a1 a2 a3 hI => ?_
 have hv := a2 0 (by simp)
 have hv1 := a2 1 (by simp)
 obtain ⟨y, z, rfl⟩ : ∃ y z, xs = #[y, z] := ⟨xs[0]'(by simp at a1; omega), xs[1]'(by simp at a1; omega), by
  apply Array.ext
  ·simpa using a1
  ·intro j hj hj'
   have : j = 0 ∨ j = 1 := by simp at hj'; omega
   rcases this with rfl | rfl <;> rfl⟩
 have hv : VR cx w (.d (.int .u64 i)) y := hv
 have hv1 : VR cx w (.d (.int .i64 10)) z := hv1
 obtain rfl : y = .int .u64 i := by cases hv with | d _ _ hv => cases hv; rfl
 obtain rfl : z = .int .i64 10 := by cases hv1 with | d _ _ hv1 => cases hv1; rfl
 obtain ⟨u, rfl⟩ : ∃ u : Nat, i = u := ⟨i.toNat, by omega⟩
 have hu : u < 18446744073709551616 := by omega
 refine (funt_in u hu w (pow_tab hI)).mono ?_
 rintro e w' ⟨rfl, k, os, rfl⟩
 have hl := dec_len u hu
 rw [Int.toNat_natCast, dig_dec 24 u (by have : (18446744073709551616 : Nat) ≤ 10 ^ (24 + 1) := by decide
                                         omega)]
 exact ⟨_, _, rfl, ⟨rfl, rfl⟩, below_grow _ _ (Nat.le_refl _) _ _, .d _ _ (.str _ (by omega))⟩
theorem funt_ab (i : Int) (h0 : 0 ≤ i) (h1 : i ≤ 18446744073709551615) (B : List (List V)) (T : List (Nat × Nat)) : AFn Tryz.prog TabI 70 [.d (.int .u64 i), .d (.int .i64 10)] ⟨B, T⟩ (Same (.d (.str (digF 24 i.toNat))) ⟨B, T⟩) := by
 refine b70.go 10 rfl fun _ => ?_
 simp only [W, seval, c70]
 refine callS_fn (funt_run i h0 h1 B T) ?_
 rintro _ _ ⟨rfl, rfl⟩
 refine ARun.go 20 ?_
 simp only [W, seval, c70]
 refine ARun.ret Tryz.func70 rfl (Left.none ?_)
 exact ⟨rfl, rfl⟩
end Go.Proofs.YtfaoamebphckbaaGreatDoor
namespace Go.Proofs.YtfaoamebphckbaaGreatDoor
open Go.RowKit Go.Av
abbrev Wd := Nat × List UInt8 × Nat
def okD (l : List UInt8) : Bool :=
 decide (valD (l.takeWhile digitB) ≤ maxU) && !(decide ((l.takeWhile digitB).length < l.length) && letterB (l.getD (l.takeWhile digitB).length 0)) && !(decide (1 < (l.takeWhile digitB).length) && decide (l.getD 0 0 = 48))
def wl (l : List UInt8) : Option Wd :=
 if l = [] then some (0, [], 0)
 else if letterB (l.getD 0 0) = true then some (if reservedS (l.takeWhile wordB) = true then 4 else 1, l.takeWhile wordB, 0)
 else if digitB (l.getD 0 0) = true then (if okD l = true then some (2, l.takeWhile digitB, valD (l.takeWhile digitB)) else none)
 else match signAt l with
  | some s => some (3, s, 0)
  | none => none
def atW (p : Nat) : Option Wd → WordS × Nat
 | some x => (⟨x.1, x.2.1, x.2.2, p, p + x.2.1.length⟩, 0)
 | none => (WordS.zero, 50)
theorem getD_drop (bs : List UInt8) (p k : Nat) : (bs.drop p).getD k 0 = bs.getD (p + k) 0 := by
 rw [List.getD_eq_getElem?_getD, List.getD_eq_getElem?_getD, List.getElem?_drop]
theorem take_while (p : UInt8 → Bool) (l : List UInt8) : l.take (l.takeWhile p).length = l.takeWhile p := (List.prefix_iff_eq_take.1 (List.takeWhile_prefix p)).symm
theorem takeAt_wl (bs : List UInt8) (p : Nat) (hp : p ≤ bs.length) : takeAt bs p = atW p (wl (bs.drop p)) := by
 have hrun : ∀ q : UInt8 → Bool, runAt q bs p = p + ((bs.drop p).takeWhile q).length := fun q => rfl
 have htext : ∀ q : UInt8 → Bool, textAt bs p (runAt q bs p) = (bs.drop p).takeWhile q := fun q => by
  unfold textAt
  rw [hrun, Nat.add_sub_cancel_left, take_while]
 have hdig : digitsAt bs p = (bs.drop p).takeWhile digitB := htext digitB
 have hg0 : (bs.drop p).getD 0 0 = bs.getD p 0 := getD_drop bs p 0
 unfold takeAt wl
 by_cases he : p = bs.length
 ·subst he
  rw [if_pos rfl, if_pos (List.drop_length)]
  rfl
 ·have hne : bs.drop p ≠ [] := by
   intro h
   have := congrArg List.length h
   rw [List.length_drop] at this
   simp at this
   omega
  rw [if_neg he, if_neg hne, hg0]
  by_cases hl : letterB (bs.getD p 0) = true
  ·rw [if_pos hl, if_pos hl, htext]
   rfl
  ·rw [if_neg hl, if_neg hl]
   by_cases hd : digitB (bs.getD p 0) = true
   ·rw [if_pos hd, if_pos hd]
    have hok : numberOk bs p = okD (bs.drop p) := by
     unfold numberOk okD
     rw [hdig, hrun, hg0, getD_drop, List.length_drop]
     congr 2
     ·congr 2
      first | (rw [decide_eq_decide]; omega) | (apply propext; omega)
     ·congr 2
      first | (rw [decide_eq_decide]; omega) | (apply propext; omega)
    rw [hok]
    cases okD (bs.drop p)
    ·rfl
    ·unfold numberW
     rw [hdig]
     rfl
   ·rw [if_neg hd, if_neg hd]
    cases signAt (bs.drop p) <;> rfl
theorem wl_prefix {l : List UInt8} {x : Wd} (h : wl l = some x) : x.2.1 <+: l := by
 unfold wl at h
 split at h
 ·obtain rfl := Option.some.inj h
  exact List.nil_prefix
 ·split at h
  ·obtain rfl := Option.some.inj h
   exact List.takeWhile_prefix _
  ·split at h
   ·split at h
    ·obtain rfl := Option.some.inj h
     exact List.takeWhile_prefix _
    ·cases h
   ·split at h
    ·rename_i s hs
     obtain rfl := Option.some.inj h
     have h3 : hasPre l s = true := List.find?_some (show signsL.find? (fun s => hasPre l s) = some s from hs)
     exact List.isPrefixOf_iff_prefix.1 h3
    ·cases h
theorem skip_suffix : ∀ (b : Bool) (l : List UInt8), skipM b l <:+ l
 | b, [] => by rw [skipM_nil]; exact List.suffix_refl _
 | true, c :: r => by
  simp only [skipM]
  split
  ·exact (skip_suffix false r).trans (List.suffix_cons _ _)
  ·exact (skip_suffix true r).trans (List.suffix_cons _ _)
 | false, c :: r => by
  simp only [skipM]
  split
  ·exact (skip_suffix false r).trans (List.suffix_cons _ _)
  ·split
   ·exact (skip_suffix true r).trans (List.suffix_cons _ _)
   ·exact List.suffix_refl _
theorem drop_white (bs : List UInt8) (k : Nat) (hk : k ≤ bs.length) : bs.drop (whiteAt bs k) = skipM false (bs.drop k) := by
 obtain ⟨t, ht⟩ := skip_suffix false (bs.drop k)
 have hl := congrArg List.length ht
 rw [List.length_append, List.length_drop] at hl
 have hw : whiteAt bs k = k + t.length := by unfold whiteAt; omega
 rw [hw, ← List.drop_drop, ← ht, List.drop_left]
 rw [ht]
def strip (x : WordS) : Wd := (x.kind, x.text, x.int)
theorem takeS_wl (bs : List UInt8) (k : Nat) (hk : k ≤ bs.length) : takeS bs k = atW (whiteAt bs k) (wl (skipM false (bs.drop k))) := by
 unfold takeS
 rw [if_neg (by omega), Int.toNat_natCast, takeAt_wl bs _ (whiteAt_le bs k), drop_white bs k hk]
structure Ps where
 ws : List WordS
 e : Int
 o : Int
 h : Bool
def Ps.w (s : Ps) : WordS := s.ws.headD .zero
def mu (s : Ps) : Nat := if s.e = 0 then s.ws.length else 0
def failP (s : Ps) (e : Int) : Ps := if s.e = 0 then ⟨s.ws, e, s.o, s.h⟩ else s
def nextP (s : Ps) : Ps := if s.e = 0 then (if (s.ws.tail.headD .zero).kind = 9 then ⟨s.ws, 50, s.o, s.h⟩ else ⟨s.ws.tail, 0, s.o, s.h⟩) else s
def isP (s : Ps) (t : List UInt8) : Bool := decide (s.e = 0) && (decide (s.w.kind = 3) || decide (s.w.kind = 4)) && decide (s.w.text = t)
def opnB (t : List UInt8) : Bool := decide (t = [40]) || decide (t = [91]) || decide (t = [123])
def clsB (t : List UInt8) : Bool := decide (t = [41]) || decide (t = [93]) || decide (t = [125])
def bumpP (s : Ps) (t : List UInt8) : Ps :=
 if opnB t = true then (if 100 < IntKind.i64.wrap (s.o + 1) then failP ⟨s.ws, s.e, IntKind.i64.wrap (s.o + 1), s.h⟩ 51 else ⟨s.ws, s.e, IntKind.i64.wrap (s.o + 1), s.h⟩)
 else if clsB t = true then ⟨s.ws, s.e, IntKind.i64.wrap (s.o - 1), s.h⟩ else s
def gotP (s : Ps) (t : List UInt8) : Bool × Ps := if isP s t = true then (true, nextP (bumpP s t)) else (false, s)
def wantP (s : Ps) (t : List UInt8) : Ps := match gotP s t with
 | (true, s1) => s1
 | (false, s1) => failP s1 51
def nameP (s : Ps) : List UInt8 × Ps := if s.e = 0 ∧ s.w.kind = 1 then (s.w.text, nextP s) else ([], failP s 51)
def numP (s : Ps) : Int × Ps := if s.e = 0 ∧ s.w.kind = 2 then ((s.w.int : Int), nextP s) else (0, failP s 51)
def kindT : List (List UInt8 × Int) := [([98, 111, 111, 108], 1), ([98, 121, 116, 101], 2), ([105, 110, 116, 51, 50], 3), ([105, 110, 116], 4), ([117, 105, 110, 116, 51, 50], 5), ([117, 105, 110, 116, 54, 52], 6)]
def kindS (t : List UInt8) : Int := ((kindT.find? fun x => x.1 == t).map (·.2)).getD 0
def noT : TyT := .mk 0 [] []
def upP : Nat → Ps → Nat × Ps
 | 0, s => (0, s)
 | m + 1, s => match gotP s [91] with
  | (false, s1) => (0, s1)
  | (true, s1) => match upP m (wantP s1 [93]) with
   | (n, s2) => (n + 1, s2)
def wrapT : Nat → TyT → TyT
 | 0, t => t
 | n + 1, t => wrapT n (.mk 8 [] [t])
def baseP (s : Ps) : TyT × Ps := if 0 < kindS s.w.text ∧ isP s s.w.text = true then (.mk (kindS s.w.text) [] [], nextP s) else match nameP s with
 | (t, s1) => (.mk 7 t [], s1)
def typP (m : Nat) (s : Ps) : TyT × Ps := match upP m s with
 | (n, s1) => match baseP s1 with
  | (t, s2) => (wrapT n t, s2)
abbrev EP := Ps → ExT × Ps
def zeroE : ExT := .mk 0 [] 0 noT [] []
def listL (E : EP) (en : List UInt8) (comma : Bool) : Nat → Ps → List ExT × Ps
 | 0, s => ([], s)
 | m + 1, s => if s.e = 0 ∧ isP s en = false then (match E s with
  | (x, s1) => match gotP s1 [44] with
   | (false, s2) => ([x], s2)
   | (true, s2) => match listL E en comma m (if comma = false ∧ isP s2 en = true then failP s2 51 else s2) with
    | (l, s3) => (x :: l, s3)) else ([], s)
def listP (E : EP) (en : List UInt8) (comma : Bool) (m : Nat) (s : Ps) : List ExT × Ps := match listL E en comma m s with
 | (l, s1) => (l, wantP s1 en)
def valsP (E : EP) : Nat → Ps → List ExT × Ps
 | 0, s => ([], s)
 | m + 1, s => match E s with
  | (x, s1) => match gotP s1 [44] with
   | (false, s2) => ([x], s2)
   | (true, s2) => match valsP E m s2 with
    | (l, s3) => (x :: l, s3)
def argsP (fl : Bool) (E : EP) (m : Nat) (s : Ps) : List ExT × Ps := match fl with
 | true => listP E [41] false m s
 | false => match (if isP s [41] = true then ([], s) else valsP E m s) with
  | (l, s1) => (l, wantP s1 [41])
def fldL (E : EP) : Nat → Ps → (List (List UInt8) × List ExT) × Ps
 | 0, s => (([], []), s)
 | m + 1, s => if s.e = 0 ∧ isP s [125] = false then (match nameP s with
  | (t, s1) => match E (wantP s1 [58]) with
   | (x, s2) => match gotP s2 [44] with
    | (false, s3) => (([t], [x]), s3)
    | (true, s3) => match fldL E m s3 with
     | ((ts, xs), s4) => ((t :: ts, x :: xs), s4)) else (([], []), s)
def namedP (fl : Bool) (E : EP) (m : Nat) (s : Ps) : ExT × Ps := match nameP s with
 | (t, s1) => match gotP s1 [40] with
  | (true, s2) => (match argsP fl E m s2 with
   | (l, s3) => (.mk 7 t 0 noT [] l, s3))
  | (false, _) => if s1.h = false then (match gotP s1 [123] with
   | (true, s2) => (match fldL E m s2 with
    | ((ts, xs), s3) => (.mk 14 [] 0 (.mk 7 t []) ts xs, wantP s3 [125]))
   | (false, _) => (.mk 1 t 0 noT [] [], s1)) else (.mk 1 t 0 noT [] [], s1)
def keyedP (E : EP) (s : Ps) : ExT × Ps :=
 if s.w.text = [116, 114, 117, 101] then (.mk 3 [] 1 noT [] [], nextP s)
 else if s.w.text = [102, 97, 108, 115, 101] then (.mk 3 [] 0 noT [] [], nextP s)
 else match E (wantP (nextP s) [40]) with
  | (x, s1) => if s.w.text = [97, 112, 112, 101, 110, 100] then (match E (wantP s1 [44]) with
   | (y, s2) => (.mk 13 [] 0 noT [] [x, y], wantP s2 [41]))
   else if 1 < kindS s.w.text then (.mk 8 [] 0 (.mk (kindS s.w.text) [] []) [] [x], wantP s1 [41])
   else (.mk 12 [] 0 noT [] [x], wantP s1 [41])
def keyB (s : Ps) : Bool := isP s [116, 114, 117, 101] || isP s [102, 97, 108, 115, 101] || isP s [108, 101, 110] || isP s [97, 112, 112, 101, 110, 100] || (decide (s.w.kind = 4) && decide (1 < kindS s.w.text))
def primP (fl : Bool) (E : EP) (m : Nat) (s : Ps) : ExT × Ps :=
 if ¬ s.e = 0 then (zeroE, s)
 else if s.w.kind = 2 then (.mk 2 [] (s.w.int : Int) noT [] [], nextP s)
 else if s.w.kind = 1 then namedP fl E m s
 else if keyB s = true then keyedP E s
 else match gotP s [40] with
  | (true, s1) => (match E s1 with
   | (x, s2) => (x, wantP s2 [41]))
  | (false, _) => if s.h = false ∧ isP s [91] = true then (match typP m s with
   | (t, s1) => match listP E [125] true m (wantP s1 [123]) with
    | (l, s2) => (.mk 15 [] 0 t [] l, s2))
   else (zeroE, failP s 51)
def sgnL : Nat → Ps → List Int × Ps
 | 0, s => ([], s)
 | m + 1, s => if isP s [33] = true then (match sgnL m (nextP s) with
  | (l, s1) => (4 :: l, s1))
  else if isP s [45] = true then (match sgnL m (nextP s) with
   | (l, s1) => (5 :: l, s1))
  else ([], s)
def pstL (E : EP) : Nat → ExT → Ps → ExT × Ps
 | 0, x, s => (x, s)
 | m + 1, x, s => if ¬ s.e = 0 then (x, s) else match gotP s [46] with
  | (true, s1) => (match nameP s1 with
   | (t, s2) => pstL E m (.mk 9 t 0 noT [] [x]) s2)
  | (false, _) => match gotP s [91] with
   | (false, _) => (x, s)
   | (true, s1) => match E s1 with
    | (y, s2) => match gotP s2 [58] with
     | (false, s3) => pstL E m (.mk 10 [] 0 noT [] [x, y]) (wantP s3 [93])
     | (true, s3) => match E s3 with
      | (z, s4) => pstL E m (.mk 11 [] 0 noT [] [x, y, z]) (wantP s4 [93])
def signT : List Int → ExT → ExT
 | [], x => x
 | k :: l, x => .mk k [] 0 noT [] [signT l x]
def operP (fl : Bool) (E : EP) (m : Nat) (s : Ps) : ExT × Ps := match sgnL m s with
 | (l, s1) => match primP fl E m s1 with
  | (x, s2) => match pstL E m x s2 with
   | (y, s3) => (signT l y, s3)
def rankL (O : EP) (r : Int) : Nat → ExT → Ps → ExT × Ps
 | 0, x, s => (x, s)
 | m + 1, x, s => if s.e = 0 ∧ s.w.kind = 3 ∧ rankS s.w.text = r then (match O (nextP s) with
  | (y, s1) => rankL O r m (.mk 6 s.w.text 0 noT [] [x, y]) s1)
  else (x, s)
def climbP (O : EP) (m : Nat) : Nat → EP
 | 0, s => O s
 | k + 1, s => if ¬ s.e = 0 then O s else match climbP O m k s with
  | (x, s1) => rankL (climbP O m k) (5 - (k : Int)) m x s1
def exprF (fl : Bool) : Nat → EP
 | 0, s => (zeroE, s)
 | n + 1, s => climbP (operP fl (exprF fl n) (n + 1)) (n + 1) 5 s
def headP (E : EP) (s : Ps) : ExT × Ps := match E ⟨s.ws, s.e, s.o, true⟩ with
 | (x, s1) => (x, ⟨s1.ws, s1.e, s1.o, false⟩)
def dotL : Nat → ExT → Ps → ExT × Ps
 | 0, x, s => (x, s)
 | m + 1, x, s => match gotP s [46] with
  | (true, s1) => (match nameP s1 with
   | (t, s2) => dotL m (.mk 9 t 0 noT [] [x]) s2)
  | (false, s1) => (x, s1)
def leftL (m : Nat) : Nat → Ps → List ExT × Ps
 | 0, s => ([], s)
 | k + 1, s => match nameP s with
  | (t, s1) => match dotL m (.mk 1 t 0 noT [] []) s1 with
   | (x, s2) => match gotP s2 [44] with
    | (false, s3) => ([x], s3)
    | (true, s3) => match leftL m k s3 with
     | (l, s4) => (x :: l, s4)
def setP (E : EP) (m : Nat) (s : Ps) : StT × Ps := match leftL m m s with
 | (l, s1) => match valsP E m (wantP s1 [61]) with
  | (x, s2) => (.mk 2 [] noT l x [] [] [], s2)
abbrev SP := Ps → StT × Ps
def stmtsL (S : SP) : Nat → Ps → List StT × Ps
 | 0, s => ([], s)
 | m + 1, s => if s.e = 0 ∧ isP s [125] = false ∧ isP s [99, 97, 115, 101] = false ∧ isP s [100, 101, 102, 97, 117, 108, 116] = false then (match S s with
  | (x, s1) => match stmtsL S m s1 with
   | (l, s2) => (x :: l, s2)) else ([], s)
def blockP (S : SP) (m : Nat) (s : Ps) : List StT × Ps := match stmtsL S m (wantP s [123]) with
 | (l, s1) => (l, wantP s1 [125])
def casL (S : SP) (k : Nat) : Nat → Ps → List CaT × Ps
 | 0, s => ([], s)
 | m + 1, s => match gotP s [99, 97, 115, 101] with
  | (false, s1) => ([], s1)
  | (true, s1) => match numP s1 with
   | (i, s2) => match stmtsL S k (wantP s2 [58]) with
    | (b, s3) => match casL S k m s3 with
     | (l, s4) => (.mk i b :: l, s4)
def elseP (S : SP) (m : Nat) (s : Ps) : List StT × Ps := match gotP s [100, 101, 102, 97, 117, 108, 116] with
 | (false, s1) => ([], s1)
 | (true, s1) => stmtsL S m (wantP s1 [58])
def stmtP (E : EP) (S : SP) (m : Nat) (s : Ps) : StT × Ps :=
 match gotP s [118, 97, 114] with
 | (true, s1) => (match nameP s1 with
  | (t, s2) => match typP m s2 with
   | (y, s3) => (.mk 1 [t] y [] [] [] [] [], s3))
 | (false, _) => match gotP s [105, 102] with
  | (true, s1) => (match headP E s1 with
   | (x, s2) => match blockP S m s2 with
    | (b, s3) => match gotP s3 [101, 108, 115, 101] with
     | (true, s4) => (match blockP S m s4 with
      | (c, s5) => (.mk 3 [] noT [] [x] b c [], s5))
     | (false, s4) => (.mk 3 [] noT [] [x] b [] [], s4))
  | (false, _) => match gotP s [102, 111, 114] with
   | (true, s1) => (match headP E s1 with
    | (x, s2) => match blockP S m s2 with
     | (b, s3) => (.mk 4 [] noT [] [x] b [] [], s3))
   | (false, _) => match gotP s [115, 119, 105, 116, 99, 104] with
    | (true, s1) => (match headP E s1 with
     | (x, s2) => match casL S m m (wantP s2 [123]) with
      | (cs, s3) => match elseP S m s3 with
       | (b, s4) => (.mk 5 [] noT [] [x] [] b cs, wantP s4 [125]))
    | (false, _) => match gotP s [114, 101, 116, 117, 114, 110] with
     | (true, s1) => (match valsP E m s1 with
      | (l, s2) => (.mk 6 [] noT [] l [] [] [], s2))
     | (false, _) => setP E m s
def stmtF (fl : Bool) : Nat → SP
 | 0, s => (.mk 0 [] noT [] [] [] [] [], s)
 | n + 1, s => stmtP (exprF fl (n + 1)) (stmtF fl n) (n + 1) s
def paramP (m : Nat) (s : Ps) : PaT × Ps := match nameP s with
 | (t, s1) => match typP m s1 with
  | (y, s2) => (⟨t, y⟩, s2)
def fieldL (k : Nat) : Nat → Ps → List PaT × Ps
 | 0, s => ([], s)
 | m + 1, s => if s.e = 0 ∧ isP s [125] = false then (match paramP k s with
  | (x, s1) => match fieldL k m s1 with
   | (l, s2) => (x :: l, s2)) else ([], s)
def structP (m : Nat) (s : Ps) : SuT × Ps := match nameP s with
 | (t, s1) => match fieldL m m (wantP (wantP s1 [115, 116, 114, 117, 99, 116]) [123]) with
  | (l, s2) => (⟨t, l⟩, wantP s2 [125])
def paramL (k : Nat) : Nat → Ps → List PaT × Ps
 | 0, s => ([], s)
 | m + 1, s => match paramP k s with
  | (x, s1) => match gotP s1 [44] with
   | (false, s2) => ([x], s2)
   | (true, s2) => match paramL k m s2 with
    | (l, s3) => (x :: l, s3)
def typeL (k : Nat) : Nat → Ps → List TyT × Ps
 | 0, s => ([], s)
 | m + 1, s => match typP k s with
  | (x, s1) => match gotP s1 [44] with
   | (false, s2) => ([x], s2)
   | (true, s2) => match typeL k m s2 with
    | (l, s3) => (x :: l, s3)
def funcP (S : SP) (m : Nat) (s : Ps) : FuT × Ps := match nameP s with
 | (t, s1) => match (if isP (wantP s1 [40]) [41] = true then ([], wantP s1 [40]) else paramL m m (wantP s1 [40])) with
  | (ps, s2) => match typeL m m (wantP (wantP s2 [41]) [40]) with
   | (rs, s3) => match blockP S m (wantP s3 [41]) with
    | (b, s4) => (⟨t, ps, rs, b⟩, s4)
def declL (S : SP) (k : Nat) : Nat → Ps → PrT → PrT × Ps
 | 0, s, p => (p, s)
 | m + 1, s, p => if s.e = 0 ∧ ¬ s.w.kind = 0 then (match gotP s [116, 121, 112, 101] with
  | (true, s1) => (match structP k s1 with
   | (x, s2) => declL S k m s2 ⟨p.structs ++ [x], p.funcs⟩)
  | (false, _) => match gotP s [102, 117, 110, 99] with
   | (true, s1) => (match funcP S k s1 with
    | (x, s2) => declL S k m s2 ⟨p.structs, p.funcs ++ [x]⟩)
   | (false, _) => declL S k m (failP s 51) p)
  else (p, s)
def progP (fl : Bool) (n : Nat) (s : Ps) : PrT × Ps := match nameP (wantP s [112, 97, 99, 107, 97, 103, 101]) with
 | (_, s1) => declL (stmtF fl n) n n s1 ⟨[], []⟩
structure Dn (s s' : Ps) : Prop where
 le : mu s' ≤ mu s
 e : ¬ s.e = 0 → s'.e = s.e
 sub : ∀ w ∈ s'.ws, w ∈ s.ws
theorem Dn.refl (s : Ps) : Dn s s := ⟨Nat.le_refl _, fun _ => rfl, fun _ h => h⟩
theorem Dn.trans {a b c : Ps} (h : Dn a b) (k : Dn b c) : Dn a c := ⟨Nat.le_trans k.le h.le, fun he => by
 have h1 := h.e he
 rw [k.e (by rw [h1]; exact he), h1], fun w hw => h.sub w (k.sub w hw)⟩
theorem mu_dead {s : Ps} (h : ¬ s.e = 0) : mu s = 0 := if_neg h
theorem mu_live {s : Ps} (h : s.e = 0) : mu s = s.ws.length := if_pos h
theorem dn_fail (s : Ps) (e : Int) : Dn s (failP s e) := by
 unfold failP
 split
 ·rename_i h
  refine ⟨?_, fun he => absurd h he, fun _ h => h⟩
  unfold mu
  rw [if_pos h]
  split <;> simp
 ·exact .refl _
theorem dn_next (s : Ps) : Dn s (nextP s) := by
 unfold nextP
 split
 ·rename_i h
  refine ⟨?_, fun he => absurd h he, fun w hw => ?_⟩
  case refine_2 =>
   split at hw
   ·exact hw
   ·exact List.mem_of_mem_tail hw
  unfold mu
  rw [if_pos h]
  split <;> simp
 ·exact .refl _
theorem next_lt (s : Ps) (h : s.e = 0) (hk : ¬ s.w.kind = 0) : mu (nextP s) < mu s := by
 have hn : s.ws ≠ [] := by
  intro hw
  unfold Ps.w at hk
  rw [hw] at hk
  exact hk rfl
 have hl := List.length_pos_iff.2 hn
 rw [mu_live h]
 unfold nextP
 rw [if_pos h]
 split
 ·rw [mu_dead (by show ¬ (50 : Int) = 0; omega)]
  exact hl
 ·rw [mu_live rfl]
  simp
  omega
theorem dn_bump (s : Ps) (t : List UInt8) : Dn s (bumpP s t) := by
 have h1 : ∀ o : Int, Dn s ⟨s.ws, s.e, o, s.h⟩ := fun _ => ⟨Nat.le_refl _, fun _ => rfl, fun _ h => h⟩
 unfold bumpP
 split
 ·split
  ·exact (h1 _).trans (dn_fail _ _)
  ·exact h1 _
 ·split
  ·exact h1 _
  ·exact .refl _
theorem bump_w (s : Ps) (t : List UInt8) : (bumpP s t).ws = s.ws := by
 unfold bumpP failP
 split
 ·split
  ·split <;> rfl
  ·rfl
 ·split <;> rfl
theorem is_live {s : Ps} {t : List UInt8} (h : isP s t = true) : s.e = 0 ∧ (s.w.kind = 3 ∨ s.w.kind = 4) ∧ s.w.text = t := by
 unfold isP at h
 simp only [Bool.and_eq_true, Bool.or_eq_true, decide_eq_true_eq] at h
 exact ⟨h.1.1, h.1.2, h.2⟩
theorem got_all (s : Ps) (t : List UInt8) : Dn s (gotP s t).2 ∧ ((gotP s t).1 = true → mu (gotP s t).2 < mu s) ∧ ((gotP s t).1 = false → (gotP s t).2 = s ∧ isP s t = false) := by
 unfold gotP
 split
 ·rename_i h
  obtain ⟨h1, h2, h3⟩ := is_live h
  refine ⟨(dn_bump s t).trans (dn_next _), fun _ => ?_, fun h => absurd h (by simp)⟩
  by_cases hb : (bumpP s t).e = 0
  ·refine Nat.lt_of_lt_of_le (next_lt _ hb ?_) (dn_bump s t).le
   unfold Ps.w
   rw [bump_w]
   change ¬ s.w.kind = 0
   omega
  ·have h4 := (dn_next (bumpP s t)).le
   rw [mu_dead hb] at h4
   show mu (nextP (bumpP s t)) < mu s
   have hl : 0 < mu s := by
    rw [mu_live h1]
    refine List.length_pos_iff.2 fun hw => ?_
    unfold Ps.w at h2
    rw [hw] at h2
    rcases h2 with h2 | h2 <;> exact absurd h2 (by decide)
   omega
 ·rename_i h
  exact ⟨.refl _, fun h => absurd h (by simp), fun _ => ⟨rfl, by simpa using h⟩⟩
theorem dn_got {s s1 : Ps} {t : List UInt8} {b : Bool} (h : gotP s t = (b, s1)) : Dn s s1 := by
 have := (got_all s t).1
 rw [h] at this
 exact this
theorem got_lt {s s1 : Ps} {t : List UInt8} (h : gotP s t = (true, s1)) : mu s1 < mu s := by
 have := (got_all s t).2.1
 rw [h] at this
 exact this rfl
theorem got_no {s s1 : Ps} {t : List UInt8} (h : gotP s t = (false, s1)) : s1 = s := by
 have := (got_all s t).2.2
 rw [h] at this
 exact (this rfl).1
theorem dn_want (s : Ps) (t : List UInt8) : Dn s (wantP s t) := by
 unfold wantP
 split
 ·rename_i h; exact dn_got h
 ·rename_i h; exact (dn_got h).trans (dn_fail _ _)
theorem dn_name {s s1 : Ps} {t : List UInt8} (h : nameP s = (t, s1)) : Dn s s1 := by
 unfold nameP at h
 split at h <;> (cases h; first | exact dn_next _ | exact dn_fail _ _)
theorem dn_num {s s1 : Ps} {t : Int} (h : numP s = (t, s1)) : Dn s s1 := by
 unfold numP at h
 split at h <;> (cases h; first | exact dn_next _ | exact dn_fail _ _)
theorem dn_up : ∀ (m : Nat) {s s1 : Ps} {n : Nat}, upP m s = (n, s1) → Dn s s1
 | 0, s, s1, n, h => by cases h; exact .refl _
 | m + 1, s, s1, n, h => by
  unfold upP at h
  split at h
  ·rename_i hg
   cases h
   exact dn_got hg
  ·rename_i hg
   split at h
   rename_i hu
   cases h
   exact (dn_got hg).trans ((dn_want _ _).trans (dn_up m hu))
theorem dn_base {s s1 : Ps} {t : TyT} (h : baseP s = (t, s1)) : Dn s s1 := by
 unfold baseP at h
 split at h
 ·cases h; exact dn_next _
 ·split at h
  rename_i hn
  cases h
  exact dn_name hn
theorem dn_typ {m : Nat} {s s1 : Ps} {t : TyT} (h : typP m s = (t, s1)) : Dn s s1 := by
 unfold typP at h
 split at h
 rename_i hu
 split at h
 rename_i hb
 cases h
 exact (dn_up m hu).trans (dn_base hb)
def DnE {α : Type} (E : Ps → α × Ps) : Prop := ∀ s, Dn s (E s).2
theorem DnE.at {α : Type} {E : Ps → α × Ps} (h : DnE E) {s s1 : Ps} {x : α} (e : E s = (x, s1)) : Dn s s1 := by
 have := h s
 rw [e] at this
 exact this
theorem DnE.of {α : Type} {E : Ps → α × Ps} (h : ∀ {s s1 : Ps} {x : α}, E s = (x, s1) → Dn s s1) : DnE E := fun s => h (x := (E s).1) rfl
theorem dn_list {E : EP} (hE : DnE E) (en : List UInt8) (comma : Bool) : ∀ (m : Nat) {s s1 : Ps} {l : List ExT}, listL E en comma m s = (l, s1) → Dn s s1
 | 0, s, s1, l, h => by cases h; exact .refl _
 | m + 1, s, s1, l, h => by
  unfold listL at h
  split at h
  ·split at h
   rename_i he
   split at h
   ·rename_i hg
    cases h
    exact (hE.at he).trans (dn_got hg)
   ·rename_i hg
    split at h
    rename_i hl
    cases h
    refine (hE.at he).trans ((dn_got hg).trans (Dn.trans ?_ (dn_list hE en comma m hl)))
    split
    ·exact dn_fail _ _
    ·exact .refl _
  ·cases h; exact .refl _
theorem dn_listP {E : EP} (hE : DnE E) {en : List UInt8} {comma : Bool} {m : Nat} {s s1 : Ps} {l : List ExT} (h : listP E en comma m s = (l, s1)) : Dn s s1 := by
 unfold listP at h
 split at h
 rename_i hl
 cases h
 exact (dn_list hE en comma m hl).trans (dn_want _ _)
theorem dn_vals {E : EP} (hE : DnE E) : ∀ (m : Nat) {s s1 : Ps} {l : List ExT}, valsP E m s = (l, s1) → Dn s s1
 | 0, s, s1, l, h => by cases h; exact .refl _
 | m + 1, s, s1, l, h => by
  unfold valsP at h
  split at h
  rename_i he
  split at h
  ·rename_i hg
   cases h
   exact (hE.at he).trans (dn_got hg)
  ·rename_i hg
   split at h
   rename_i hl
   cases h
   exact (hE.at he).trans ((dn_got hg).trans (dn_vals hE m hl))
theorem dn_args {fl : Bool} {E : EP} (hE : DnE E) {m : Nat} {s s1 : Ps} {l : List ExT} (h : argsP fl E m s = (l, s1)) : Dn s s1 := by
 unfold argsP at h
 split at h
 ·exact dn_listP hE h
 ·split at h
  rename_i hl
  cases h
  refine Dn.trans ?_ (dn_want _ _)
  split at hl
  ·cases hl; exact .refl _
  ·exact dn_vals hE m hl
theorem dn_fld {E : EP} (hE : DnE E) : ∀ (m : Nat) {s s1 : Ps} {l : List (List UInt8) × List ExT}, fldL E m s = (l, s1) → Dn s s1
 | 0, s, s1, l, h => by cases h; exact .refl _
 | m + 1, s, s1, l, h => by
  unfold fldL at h
  split at h
  ·split at h
   rename_i hn
   split at h
   rename_i he
   split at h
   ·rename_i hg
    cases h
    exact (dn_name hn).trans ((dn_want _ _).trans ((hE.at he).trans (dn_got hg)))
   ·rename_i hg
    split at h
    rename_i hl
    cases h
    exact (dn_name hn).trans ((dn_want _ _).trans ((hE.at he).trans ((dn_got hg).trans (dn_fld hE m hl))))
  ·cases h; exact .refl _
theorem dn_named {fl : Bool} {E : EP} (hE : DnE E) {m : Nat} {s s1 : Ps} {x : ExT} (h : namedP fl E m s = (x, s1)) : Dn s s1 := by
 unfold namedP at h
 split at h
 rename_i hn
 refine (dn_name hn).trans ?_
 split at h
 ·rename_i hg
  split at h
  rename_i ha
  cases h
  exact (dn_got hg).trans (dn_args hE ha)
 ·split at h
  ·split at h
   ·rename_i hg
    split at h
    rename_i hf
    cases h
    exact (dn_got hg).trans ((dn_fld hE m hf).trans (dn_want _ _))
   ·cases h; exact .refl _
  ·cases h; exact .refl _
theorem dn_keyed {E : EP} (hE : DnE E) {s s1 : Ps} {x : ExT} (h : keyedP E s = (x, s1)) : Dn s s1 := by
 unfold keyedP at h
 split at h
 ·cases h; exact dn_next _
 ·split at h
  ·cases h; exact dn_next _
  ·split at h
   rename_i he
   refine (dn_next s).trans ((dn_want _ _).trans ((hE.at he).trans ?_))
   split at h
   ·split at h
    rename_i he2
    cases h
    exact (dn_want _ _).trans ((hE.at he2).trans (dn_want _ _))
   ·split at h <;> (cases h; exact dn_want _ _)
theorem dn_prim {fl : Bool} {E : EP} (hE : DnE E) {m : Nat} {s s1 : Ps} {x : ExT} (h : primP fl E m s = (x, s1)) : Dn s s1 := by
 unfold primP at h
 split at h
 ·cases h; exact .refl _
 split at h
 ·cases h; exact dn_next _
 split at h
 ·exact dn_named hE h
 split at h
 ·exact dn_keyed hE h
 split at h
 ·rename_i hg
  split at h
  rename_i he
  cases h
  exact (dn_got hg).trans ((hE.at he).trans (dn_want _ _))
 ·split at h
  ·split at h
   rename_i ht
   split at h
   rename_i hl
   cases h
   exact (dn_typ ht).trans ((dn_want _ _).trans (dn_listP hE hl))
  ·cases h; exact dn_fail _ _
theorem dn_sgn : ∀ (m : Nat) {s s1 : Ps} {l : List Int}, sgnL m s = (l, s1) → Dn s s1
 | 0, s, s1, l, h => by cases h; exact .refl _
 | m + 1, s, s1, l, h => by
  unfold sgnL at h
  split at h
  ·split at h
   rename_i hs
   cases h
   exact (dn_next _).trans (dn_sgn m hs)
  ·split at h
   ·split at h
    rename_i hs
    cases h
    exact (dn_next _).trans (dn_sgn m hs)
   ·cases h; exact .refl _
theorem dn_pst {E : EP} (hE : DnE E) : ∀ (m : Nat) {x y : ExT} {s s1 : Ps}, pstL E m x s = (y, s1) → Dn s s1
 | 0, x, y, s, s1, h => by cases h; exact .refl _
 | m + 1, x, y, s, s1, h => by
  unfold pstL at h
  split at h
  ·cases h; exact .refl _
  split at h
  ·rename_i hg
   split at h
   rename_i hn
   exact (dn_got hg).trans ((dn_name hn).trans (dn_pst hE m h))
  ·split at h
   ·cases h; exact .refl _
   ·rename_i hg
    split at h
    rename_i he
    refine (dn_got hg).trans ((hE.at he).trans ?_)
    split at h
    ·rename_i hg2
     exact (dn_got hg2).trans ((dn_want _ _).trans (dn_pst hE m h))
    ·rename_i hg2
     split at h
     rename_i he2
     exact (dn_got hg2).trans ((hE.at he2).trans ((dn_want _ _).trans (dn_pst hE m h)))
theorem dn_oper {fl : Bool} {E : EP} (hE : DnE E) {m : Nat} {s s1 : Ps} {x : ExT} (h : operP fl E m s = (x, s1)) : Dn s s1 := by
 unfold operP at h
 split at h
 rename_i h1
 split at h
 rename_i h2
 split at h
 rename_i h3
 cases h
 exact (dn_sgn m h1).trans ((dn_prim hE h2).trans (dn_pst hE m h3))
theorem dn_rank {O : EP} (hO : DnE O) (r : Int) : ∀ (m : Nat) {x y : ExT} {s s1 : Ps}, rankL O r m x s = (y, s1) → Dn s s1
 | 0, x, y, s, s1, h => by cases h; exact .refl _
 | m + 1, x, y, s, s1, h => by
  unfold rankL at h
  split at h
  ·split at h
   rename_i he
   exact (dn_next _).trans ((hO.at he).trans (dn_rank hO r m h))
  ·cases h; exact .refl _
theorem dn_climb {O : EP} (hO : DnE O) (m : Nat) : ∀ k : Nat, DnE (climbP O m k)
 | 0 => hO
 | k + 1 => .of fun {s s1 x} h => by
  have ih := dn_climb hO m k
  unfold climbP at h
  split at h
  ·exact hO.at h
  ·split at h
   rename_i he
   exact (ih.at he).trans (dn_rank ih _ m h)
theorem dn_expr (fl : Bool) : ∀ n : Nat, DnE (exprF fl n)
 | 0 => fun s => .refl s
 | n + 1 => dn_climb (.of fun h => dn_oper (dn_expr fl n) h) _ _
theorem dn_head {E : EP} (hE : DnE E) {s s1 : Ps} {x : ExT} (h : headP E s = (x, s1)) : Dn s s1 := by
 unfold headP at h
 split at h
 rename_i he
 cases h
 have := hE.at he
 exact ⟨this.le, this.e, this.sub⟩
theorem dn_dot : ∀ (m : Nat) {x y : ExT} {s s1 : Ps}, dotL m x s = (y, s1) → Dn s s1
 | 0, x, y, s, s1, h => by cases h; exact .refl _
 | m + 1, x, y, s, s1, h => by
  unfold dotL at h
  split at h
  ·rename_i hg
   split at h
   rename_i hn
   exact (dn_got hg).trans ((dn_name hn).trans (dn_dot m h))
  ·rename_i hg
   cases h
   exact dn_got hg
theorem dn_left (m : Nat) : ∀ (k : Nat) {s s1 : Ps} {l : List ExT}, leftL m k s = (l, s1) → Dn s s1
 | 0, s, s1, l, h => by cases h; exact .refl _
 | k + 1, s, s1, l, h => by
  unfold leftL at h
  split at h
  rename_i hn
  split at h
  rename_i hd
  refine (dn_name hn).trans ((dn_dot m hd).trans ?_)
  split at h
  ·rename_i hg
   cases h
   exact dn_got hg
  ·rename_i hg
   split at h
   rename_i hl
   cases h
   exact (dn_got hg).trans (dn_left m k hl)
theorem dn_set {E : EP} (hE : DnE E) {m : Nat} {s s1 : Ps} {x : StT} (h : setP E m s = (x, s1)) : Dn s s1 := by
 unfold setP at h
 split at h
 rename_i hl
 split at h
 rename_i hv
 cases h
 exact (dn_left m m hl).trans ((dn_want _ _).trans (dn_vals hE m hv))
theorem dn_stmts {S : SP} (hS : DnE S) : ∀ (m : Nat) {s s1 : Ps} {l : List StT}, stmtsL S m s = (l, s1) → Dn s s1
 | 0, s, s1, l, h => by cases h; exact .refl _
 | m + 1, s, s1, l, h => by
  unfold stmtsL at h
  split at h
  ·split at h
   rename_i he
   split at h
   rename_i hl
   cases h
   exact (hS.at he).trans (dn_stmts hS m hl)
  ·cases h; exact .refl _
theorem dn_block {S : SP} (hS : DnE S) {m : Nat} {s s1 : Ps} {l : List StT} (h : blockP S m s = (l, s1)) : Dn s s1 := by
 unfold blockP at h
 split at h
 rename_i hl
 cases h
 exact (dn_want _ _).trans ((dn_stmts hS m hl).trans (dn_want _ _))
theorem dn_cas {S : SP} (hS : DnE S) (k : Nat) : ∀ (m : Nat) {s s1 : Ps} {l : List CaT}, casL S k m s = (l, s1) → Dn s s1
 | 0, s, s1, l, h => by cases h; exact .refl _
 | m + 1, s, s1, l, h => by
  unfold casL at h
  split at h
  ·rename_i hg
   cases h
   exact dn_got hg
  ·rename_i hg
   split at h
   rename_i hn
   split at h
   rename_i hb
   split at h
   rename_i hc
   cases h
   exact (dn_got hg).trans ((dn_num hn).trans ((dn_want _ _).trans ((dn_stmts hS k hb).trans (dn_cas hS k m hc))))
theorem dn_else {S : SP} (hS : DnE S) {m : Nat} {s s1 : Ps} {l : List StT} (h : elseP S m s = (l, s1)) : Dn s s1 := by
 unfold elseP at h
 split at h
 ·rename_i hg
  cases h
  exact dn_got hg
 ·rename_i hg
  exact (dn_got hg).trans ((dn_want _ _).trans (dn_stmts hS m h))
theorem dn_stmt {E : EP} (hE : DnE E) {S : SP} (hS : DnE S) {m : Nat} {s s1 : Ps} {x : StT} (h : stmtP E S m s = (x, s1)) : Dn s s1 := by
 unfold stmtP at h
 split at h
 ·rename_i hg
  split at h
  rename_i hn
  split at h
  rename_i ht
  cases h
  exact (dn_got hg).trans ((dn_name hn).trans (dn_typ ht))
 split at h
 ·rename_i hg
  split at h
  rename_i hh
  split at h
  rename_i hb
  refine (dn_got hg).trans ((dn_head hE hh).trans ((dn_block hS hb).trans ?_))
  split at h
  ·rename_i hg2
   split at h
   rename_i hb2
   cases h
   exact (dn_got hg2).trans (dn_block hS hb2)
  ·rename_i hg2
   cases h
   exact dn_got hg2
 split at h
 ·rename_i hg
  split at h
  rename_i hh
  split at h
  rename_i hb
  cases h
  exact (dn_got hg).trans ((dn_head hE hh).trans (dn_block hS hb))
 split at h
 ·rename_i hg
  split at h
  rename_i hh
  split at h
  rename_i hc
  split at h
  rename_i hb
  cases h
  exact (dn_got hg).trans ((dn_head hE hh).trans ((dn_want _ _).trans ((dn_cas hS m m hc).trans ((dn_else hS hb).trans (dn_want _ _)))))
 split at h
 ·rename_i hg
  split at h
  rename_i hv
  cases h
  exact (dn_got hg).trans (dn_vals hE m hv)
 ·exact dn_set hE h
theorem dn_stmtF (fl : Bool) : ∀ n : Nat, DnE (stmtF fl n)
 | 0 => fun s => .refl s
 | n + 1 => .of fun h => dn_stmt (dn_expr fl (n + 1)) (dn_stmtF fl n) h
theorem dn_param {m : Nat} {s s1 : Ps} {x : PaT} (h : paramP m s = (x, s1)) : Dn s s1 := by
 unfold paramP at h
 split at h
 rename_i hn
 split at h
 rename_i ht
 cases h
 exact (dn_name hn).trans (dn_typ ht)
theorem dn_fields (k : Nat) : ∀ (m : Nat) {s s1 : Ps} {l : List PaT}, fieldL k m s = (l, s1) → Dn s s1
 | 0, s, s1, l, h => by cases h; exact .refl _
 | m + 1, s, s1, l, h => by
  unfold fieldL at h
  split at h
  ·split at h
   rename_i hp
   split at h
   rename_i hl
   cases h
   exact (dn_param hp).trans (dn_fields k m hl)
  ·cases h; exact .refl _
theorem dn_struct {m : Nat} {s s1 : Ps} {x : SuT} (h : structP m s = (x, s1)) : Dn s s1 := by
 unfold structP at h
 split at h
 rename_i hn
 split at h
 rename_i hl
 cases h
 exact (dn_name hn).trans ((dn_want _ _).trans ((dn_want _ _).trans ((dn_fields m m hl).trans (dn_want _ _))))
theorem dn_params (k : Nat) : ∀ (m : Nat) {s s1 : Ps} {l : List PaT}, paramL k m s = (l, s1) → Dn s s1
 | 0, s, s1, l, h => by cases h; exact .refl _
 | m + 1, s, s1, l, h => by
  unfold paramL at h
  split at h
  rename_i hp
  split at h
  ·rename_i hg
   cases h
   exact (dn_param hp).trans (dn_got hg)
  ·rename_i hg
   split at h
   rename_i hl
   cases h
   exact (dn_param hp).trans ((dn_got hg).trans (dn_params k m hl))
theorem dn_types (k : Nat) : ∀ (m : Nat) {s s1 : Ps} {l : List TyT}, typeL k m s = (l, s1) → Dn s s1
 | 0, s, s1, l, h => by cases h; exact .refl _
 | m + 1, s, s1, l, h => by
  unfold typeL at h
  split at h
  rename_i hp
  split at h
  ·rename_i hg
   cases h
   exact (dn_typ hp).trans (dn_got hg)
  ·rename_i hg
   split at h
   rename_i hl
   cases h
   exact (dn_typ hp).trans ((dn_got hg).trans (dn_types k m hl))
theorem dn_func {S : SP} (hS : DnE S) {m : Nat} {s s1 : Ps} {x : FuT} (h : funcP S m s = (x, s1)) : Dn s s1 := by
 unfold funcP at h
 split at h
 rename_i hn
 split at h
 rename_i hp
 split at h
 rename_i ht
 split at h
 rename_i hb
 cases h
 refine (dn_name hn).trans ((dn_want _ [40]).trans (Dn.trans ?_ ((dn_want _ _).trans ((dn_want _ _).trans ((dn_types m m ht).trans ((dn_want _ _).trans (dn_block hS hb)))))))
 split at hp
 ·cases hp; exact .refl _
 ·exact dn_params m m hp
def w9 : WordS := ⟨9, [], 0, 0, 0⟩
def wordsF (bs : List UInt8) : Nat → Nat → List WordS
 | 0, _ => [w9]
 | f + 1, i => if (takeS bs i).2 = 0 then (if (takeS bs i).1.kind = 0 then [(takeS bs i).1] else (takeS bs i).1 :: wordsF bs f (takeS bs i).1.next) else [w9]
theorem wordsF_fuel (bs : List UInt8) : ∀ (f g i : Nat), i ≤ bs.length → bs.length < f + i → bs.length < g + i → wordsF bs f i = wordsF bs g i
 | 0, _, _, h, h1, _ => absurd h1 (by omega)
 | _, 0, _, h, _, h2 => absurd h2 (by omega)
 | f + 1, g + 1, i, h, h1, h2 => by
  unfold wordsF
  by_cases he : (takeS bs i).2 = 0
  ·rw [if_pos he, if_pos he]
   by_cases hk : (takeS bs i).1.kind = 0
   ·rw [if_pos hk, if_pos hk]
   ·have hn := take_next bs i h he hk
    rw [if_neg hk, if_neg hk, wordsF_fuel bs f g _ hn.2 (by omega) (by omega)]
  ·rw [if_neg he, if_neg he]
def wordsAt (bs : List UInt8) (i : Nat) : List WordS := wordsF bs (bs.length + 1) i
theorem wordsAt_eq (bs : List UInt8) (i : Nat) (h : i ≤ bs.length) : wordsAt bs i = if (takeS bs i).2 = 0 then (if (takeS bs i).1.kind = 0 then [(takeS bs i).1] else (takeS bs i).1 :: wordsAt bs (takeS bs i).1.next) else [w9] := by
 unfold wordsAt
 rw [wordsF]
 by_cases he : (takeS bs i).2 = 0
 ·rw [if_pos he, if_pos he]
  by_cases hk : (takeS bs i).1.kind = 0
  ·rw [if_pos hk, if_pos hk]
  ·have hn := take_next bs i h he hk
   rw [if_neg hk, if_neg hk, wordsF_fuel bs bs.length (bs.length + 1) _ hn.2 (by omega) (by omega)]
 ·rw [if_neg he, if_neg he]
theorem wordsF_len (bs : List UInt8) : ∀ f i : Nat, (wordsF bs f i).length ≤ f + 1
 | 0, _ => by simp [wordsF]
 | f + 1, i => by
  unfold wordsF
  have := wordsF_len bs f (takeS bs i).1.next
  by_cases he : (takeS bs i).2 = 0
  ·rw [if_pos he]
   by_cases hk : (takeS bs i).1.kind = 0
   ·rw [if_pos hk]; simp
   ·rw [if_neg hk]; simp; omega
  ·rw [if_neg he]; simp
theorem wordsAt_len (bs : List UInt8) (i : Nat) : (wordsAt bs i).length ≤ bs.length + 2 := wordsF_len bs _ i
theorem numberW_kind (bs : List UInt8) (p : Nat) : (numberW bs p).kind = 2 := rfl
theorem take_kind (bs : List UInt8) (i : Nat) : (takeS bs i).1.kind ≤ 4 := by
 unfold takeS
 split
 ·simp [WordS.zero]
 ·unfold takeAt
  split
  ·simp
  ·split
   ·simp only; split <;> omega
   ·split
    ·split
     ·rw [numberW_kind]; omega
     ·simp [WordS.zero]
    ·split
     ·simp
     ·simp [WordS.zero]
theorem take_err (bs : List UInt8) (i : Nat) (h : i ≤ bs.length) : (takeS bs i).2 = 0 ∨ (takeS bs i).2 = 50 := by
 have hr : takeS bs i = takeAt bs (whiteAt bs i) := by
  unfold takeS
  rw [if_neg (by omega)]
  rfl
 rw [hr]
 unfold takeAt
 split
 ·exact .inl rfl
 ·split
  ·exact .inl rfl
  ·split
   ·split
    ·exact .inl rfl
    ·exact .inr rfl
   ·split
    ·exact .inl rfl
    ·exact .inr rfl
theorem take_next_le (bs : List UInt8) (k : Nat) (hk : k ≤ bs.length) (he : (takeS bs k).2 = 0) : (takeS bs k).1.next ≤ bs.length := by
 by_cases hn : (takeS bs k).1.kind = 0
 ·have hr : takeS bs k = takeAt bs (whiteAt bs k) := by
   unfold takeS
   rw [if_neg (by omega)]
   rfl
  rw [hr] at hn he ⊢
  have h2 := whiteAt_le bs k
  generalize whiteAt bs k = p at *
  unfold takeAt at hn he ⊢
  by_cases hp : p = bs.length
  ·rw [if_pos hp]
   exact Nat.le_of_eq hp
  ·rw [if_neg hp] at hn he ⊢
   by_cases hl : letterB (bs.getD p 0) = true
   ·rw [if_pos hl] at hn
    simp only at hn
    split at hn <;> omega
   ·rw [if_neg hl] at hn he ⊢
    by_cases hd : digitB (bs.getD p 0) = true
    ·rw [if_pos hd] at hn he ⊢
     by_cases ho : numberOk bs p = true
     ·rw [if_pos ho, numberW_kind] at hn
      omega
     ·rw [if_neg ho] at he
      cases he
    ·rw [if_neg hd] at hn he ⊢
     cases hs : signAt (bs.drop p) with
     | none => rw [hs] at he; cases he
     | some s => rw [hs] at hn; cases hn
 ·exact (take_next bs k hk he hn).2
def OkP (bs : List UInt8) (s : Ps) : Prop := s.e = 0 → s.w.kind ≤ 4 ∧ s.w.next ≤ bs.length ∧ s.ws = s.w :: (if s.w.kind = 0 then [] else wordsAt bs s.w.next)
theorem ok_dead {bs : List UInt8} {s : Ps} (h : ¬ s.e = 0) : OkP bs s := fun he => absurd he h
theorem ok_same {bs : List UInt8} {s t : Ps} (h : OkP bs s) (hw : t.ws = s.ws) (he : t.e = 0 → s.e = 0) : OkP bs t := fun h1 => by
 have hw' : t.w = s.w := by unfold Ps.w; rw [hw]
 rw [hw', hw]
 exact h (he h1)
theorem OkP.mu_le {bs : List UInt8} {s : Ps} (h : OkP bs s) : mu s ≤ bs.length + 3 := by
 unfold mu
 split
 ·rename_i he
  have hl := wordsAt_len bs s.w.next
  rw [(h he).2.2]
  split
  ·simp
  ·simp; omega
 ·omega
theorem next_live {bs : List UInt8} {s : Ps} (h : OkP bs s) (he : s.e = 0) (hk : ¬ s.w.kind = 0) :
 (if (takeS bs s.w.next).2 = 0 then (nextP s).w = (takeS bs s.w.next).1 ∧ (nextP s).e = 0 else (nextP s).w = s.w ∧ (nextP s).e = 50) ∧ (nextP s).o = s.o ∧ (nextP s).h = s.h ∧ OkP bs (nextP s) := by
 obtain ⟨h1, h2, h3⟩ := h he
 rw [if_neg hk, wordsAt_eq bs _ h2] at h3
 have hkd := take_kind bs s.w.next
 by_cases ht : (takeS bs s.w.next).2 = 0
 ·have htl : s.ws.tail = (takeS bs s.w.next).1 :: (if (takeS bs s.w.next).1.kind = 0 then [] else wordsAt bs (takeS bs s.w.next).1.next) := by
   rw [h3, if_pos ht]
   by_cases hk0 : (takeS bs s.w.next).1.kind = 0
   ·rw [if_pos hk0, if_pos hk0]; rfl
   ·rw [if_neg hk0, if_neg hk0]; rfl
  have hn : nextP s = ⟨s.ws.tail, 0, s.o, s.h⟩ := by
   unfold nextP
   rw [if_pos he, if_neg]
   rw [htl]
   show ¬ (takeS bs s.w.next).1.kind = 9
   omega
  have hw : (nextP s).w = (takeS bs s.w.next).1 := by
   rw [hn]
   show s.ws.tail.headD .zero = _
   rw [htl]
   rfl
  refine ⟨?_, by rw [hn], by rw [hn], fun _ => ?_⟩
  ·rw [if_pos ht]
   exact ⟨hw, by rw [hn]⟩
  ·rw [hw]
   exact ⟨hkd, take_next_le bs _ h2 ht, by rw [hn]; exact htl⟩
 ·have hn : nextP s = ⟨s.ws, 50, s.o, s.h⟩ := by
   unfold nextP
   rw [if_pos he, if_pos]
   rw [h3, if_neg ht]
   rfl
  refine ⟨?_, by rw [hn], by rw [hn], ?_⟩
  ·rw [if_neg ht, hn]
   exact ⟨rfl, rfl⟩
  ·rw [hn]
   exact ok_dead (by simp)
theorem next_dead {s : Ps} (h : ¬ s.e = 0) : nextP s = s := if_neg h
set_option linter.unusedSimpArgs false
def wordsT : Nat → List UInt8 → List Wd
 | 0, _ => [(9, [], 0)]
 | f + 1, l => match wl (skipM false l) with
  | none => [(9, [], 0)]
  | some x => if x.1 = 0 then [(0, [], 0)] else x :: wordsT f ((skipM false l).drop x.2.1.length)
theorem wordsT_skip {l l' : List UInt8} (h : skipM false l = skipM false l') (f : Nat) : wordsT (f + 1) l = wordsT (f + 1) l' := by
 unfold wordsT
 rw [h]
theorem wl_zero {l : List UInt8} {x : Wd} (h : wl l = some x) (hx : x.1 = 0) : l = [] ∧ x = (0, [], 0) := by
 unfold wl at h
 split at h
 ·rename_i hl
  exact ⟨hl, (Option.some.inj h).symm⟩
 ·split at h
  ·obtain rfl := Option.some.inj h
   exfalso
   revert hx
   dsimp only
   split <;> decide
  ·split at h
   ·split at h
    ·obtain rfl := Option.some.inj h
     exact absurd hx (show ¬ (2 : Nat) = 0 by decide)
    ·cases h
   ·split at h
    ·obtain rfl := Option.some.inj h
     exact absurd hx (show ¬ (3 : Nat) = 0 by decide)
    ·cases h
theorem words_T (bs : List UInt8) : ∀ (f i : Nat), i ≤ bs.length → (wordsF bs f i).map strip = wordsT f (bs.drop i)
 | 0, _, _ => rfl
 | f + 1, i, hi => by
  unfold wordsF wordsT
  have ht := takeS_wl bs i hi
  cases hw : wl (skipM false (bs.drop i)) with
  | none =>
   rw [hw] at ht
   rw [ht]
   rfl
  | some x =>
   rw [hw] at ht
   have e0 : (takeS bs i).2 = 0 := by rw [ht]; rfl
   have e1 : (takeS bs i).1 = ⟨x.1, x.2.1, x.2.2, whiteAt bs i, whiteAt bs i + x.2.1.length⟩ := by rw [ht]; rfl
   have hn := take_next bs i hi e0
   rw [e1] at hn
   rw [if_pos e0, e1]
   dsimp only at hn ⊢
   by_cases hx : x.1 = 0
   ·rw [if_pos hx, if_pos hx]
    obtain ⟨_, rfl⟩ := wl_zero hw hx
    rfl
   ·rw [if_neg hx, if_neg hx, List.map_cons]
    have hn2 := hn hx
    rw [words_T bs f _ hn2.2, ← List.drop_drop, drop_white bs i hi]
    rfl
theorem wordsAt_T (bs : List UInt8) (f : Nat) (hf : bs.length < f) : (wordsAt bs 0).map strip = wordsT f bs := by
 unfold wordsAt
 rw [wordsF_fuel bs (bs.length + 1) f 0 (Nat.zero_le _) (by omega) (by omega), words_T bs f 0 (Nat.zero_le _)]
 rfl
def stopB : List UInt8 → Bool
 | [] => true
 | c :: _ => !wordB c
theorem while_stop (p : UInt8 → Bool) (hp : ∀ c, p c = true → wordB c = true) : ∀ (s r : List UInt8), (∀ c ∈ s, p c = true) → stopB r = true → (s ++ r).takeWhile p = s
 | [], [], _, _ => rfl
 | [], c :: r, _, h => by
  have : p c = false := by
   cases hc : p c
   ·rfl
   ·have h2 : (!wordB c) = true := h
    rw [hp c hc] at h2
    cases h2
  rw [List.nil_append, List.takeWhile_cons, this]
  rfl
 | c :: s, r, h, hr => by
  rw [List.cons_append, List.takeWhile_cons, if_pos (h c List.mem_cons_self), while_stop p hp s r (fun d hd => h d (List.mem_cons_of_mem _ hd)) hr]
theorem letter_word {c : UInt8} (h : letterB c = true) : wordB c = true := by unfold wordB; rw [h]; rfl
theorem digit_word {c : UInt8} (h : digitB c = true) : wordB c = true := by unfold wordB; rw [h, Bool.or_true]
theorem letter_digit {c : UInt8} (h : letterB c = true) : digitB c = false := by
 unfold letterB at h
 unfold digitB
 simp only [decide_eq_true_eq, decide_eq_false_iff_not] at *
 omega
theorem word_white {c : UInt8} (h : wordB c = true) : whiteB c = false ∧ c.toNat ≠ 47 := by
 unfold wordB letterB digitB at h
 unfold whiteB
 simp only [Bool.or_eq_true, decide_eq_true_eq, decide_eq_false_iff_not] at *
 omega
theorem skip_word {c : UInt8} (h : wordB c = true) (r : List UInt8) : skipM false (c :: r) = c :: r := by
 obtain ⟨h1, h2⟩ := word_white h
 exact skip_stop c r (by rw [h1]; decide) (fun h => h2 h.1)
theorem words_letters {s : List UInt8} (hne : s ≠ []) (h0 : letterB (s.getD 0 0) = true) (hs : ∀ c ∈ s, wordB c = true) {r : List UInt8} (hr : stopB r = true) (f : Nat) : wordsT (f + 1) (s ++ r) = (if reservedS s = true then 4 else 1, s, 0) :: wordsT f r := by
 obtain ⟨c, s', rfl⟩ : ∃ c s', s = c :: s' := by cases s with | nil => exact absurd rfl hne | cons c s' => exact ⟨c, s', rfl⟩
 have hw := while_stop wordB (fun _ h => h) (c :: s') r hs hr
 have hwl : wl (c :: s' ++ r) = some (if reservedS (c :: s') = true then 4 else 1, c :: s', 0) := by
  unfold wl
  rw [if_neg (by simp), if_pos (by simpa using h0), hw]
 have hsk : skipM false (c :: s' ++ r) = c :: s' ++ r := skip_word (hs c List.mem_cons_self) _
 conv => lhs; unfold wordsT
 rw [hsk, hwl]
 dsimp only
 rw [if_neg (by split <;> decide), List.drop_left]
theorem identQ {s : List UInt8} (h : identS s = true) : s ≠ [] ∧ letterB (s.getD 0 0) = true ∧ (∀ c ∈ s, wordB c = true) ∧ reservedS s = false := by
 unfold identS at h
 simp only [Bool.and_eq_true, decide_eq_true_eq] at h
 obtain ⟨⟨⟨_, h1⟩, h2⟩, h3⟩ := h
 have h3 := eq_of_beq h3
 have ht := takeS_wl s 0 (Nat.zero_le _)
 rw [List.drop_zero] at ht
 cases hw : wl (skipM false s) with
 | none =>
  rw [show ((0 : Nat) : Int) = 0 from rfl, hw] at ht
  rw [ht] at h1
  exact absurd h1 (show ¬ (50 : Nat) = 0 by decide)
 | some x =>
  rw [show ((0 : Nat) : Int) = 0 from rfl, hw] at ht
  rw [ht] at h2 h3
  change x.1 = 1 at h2
  change x.2.1 = s at h3
  have hp := wl_prefix hw
  rw [h3] at hp
  have hlen := skip_le false s
  have hsk : skipM false s = s := (hp.eq_of_length_le hlen).symm
  rw [hsk] at hw
  unfold wl at hw
  split at hw
  ·obtain rfl := Option.some.inj hw
   exact absurd h2 (by decide)
  ·rename_i hne
   split at hw
   ·rename_i hl
    obtain rfl := Option.some.inj hw
    have hall : s.takeWhile wordB = s := h3
    refine ⟨hne, hl, ?_, ?_⟩
    ·intro c hc
     rw [← hall] at hc
     exact List.all_eq_true.1 (List.all_takeWhile (p := wordB) (l := s)) c hc
    ·rw [hall] at h2
     cases hr : reservedS s
     ·rfl
     ·rw [hr] at h2
      exact absurd h2 (show ¬ (4 : Nat) = 1 by decide)
   ·split at hw
    ·split at hw
     ·obtain rfl := Option.some.inj hw
      exact absurd h2 (show ¬ (2 : Nat) = 1 by decide)
     ·cases hw
    ·split at hw
     ·obtain rfl := Option.some.inj hw
      exact absurd h2 (show ¬ (3 : Nat) = 1 by decide)
     ·cases hw
theorem words_name {s : List UInt8} (h : identS s = true) {r : List UInt8} (hr : stopB r = true) (f : Nat) : wordsT (f + 1) (s ++ r) = (1, s, 0) :: wordsT f r := by
 obtain ⟨h1, h2, h3, h4⟩ := identQ h
 rw [words_letters h1 h2 h3 hr f, h4]
 rfl
theorem words_key {s : List UInt8} (h : s ∈ keysL) {r : List UInt8} (hr : stopB r = true) (f : Nat) : wordsT (f + 1) (s ++ r) = (4, s, 0) :: wordsT f r := by
 have hk : ∀ s ∈ keysL, s ≠ [] ∧ letterB (s.getD 0 0) = true ∧ (∀ c ∈ s, wordB c = true) ∧ reservedS s = true := by decide
 obtain ⟨h1, h2, h3, h4⟩ := hk s h
 rw [words_letters h1 h2 h3 hr f, h4]
 rfl
theorem dig_all : ∀ (f n : Nat), n < 10 ^ (f + 1) → (∀ c ∈ digF f n, digitB c = true) ∧ valD (digF f n) = n ∧ digF f n ≠ [] ∧ (1 < (digF f n).length → (digF f n).getD 0 0 ≠ 48)
 | 0, n, h => by
  have h : n < 10 := by simpa using h
  have e : n % 10 = n := Nat.mod_eq_of_lt h
  have hd : (UInt8.ofNat (48 + n)).toNat = 48 + n := by rw [UInt8.toNat_ofNat']; omega
  unfold digF
  rw [e]
  refine ⟨?_, ?_, by simp, by simp⟩
  ·intro c hc
   obtain rfl := List.mem_singleton.1 hc
   unfold digitB
   rw [hd, decide_eq_true_eq]
   omega
  ·unfold valD
   simp only [List.foldl_cons, List.foldl_nil, hd]
   omega
 | f + 1, n, h => by
  unfold digF
  by_cases h10 : n < 10
  ·have hd : (UInt8.ofNat (48 + n)).toNat = 48 + n := by rw [UInt8.toNat_ofNat']; omega
   rw [if_pos h10]
   refine ⟨?_, ?_, by simp, by simp⟩
   ·intro c hc
    obtain rfl := List.mem_singleton.1 hc
    unfold digitB
    rw [hd, decide_eq_true_eq]
    omega
   ·unfold valD
    simp only [List.foldl_cons, List.foldl_nil, hd]
    omega
  ·rw [if_neg h10]
   have hd : (UInt8.ofNat (48 + n % 10)).toNat = 48 + n % 10 := by rw [UInt8.toNat_ofNat']; omega
   obtain ⟨h1, h2, h3, h4⟩ := dig_all f (n / 10) (by rw [Nat.pow_succ] at h; omega)
   refine ⟨?_, ?_, by simp, ?_⟩
   ·intro c hc
    rcases List.mem_append.1 hc with hc | hc
    ·exact h1 c hc
    ·obtain rfl := List.mem_singleton.1 hc
     unfold digitB
     rw [hd, decide_eq_true_eq]
     omega
   ·rw [valD_snoc, h2, hd]
    omega
   ·intro _
    obtain ⟨c, l, hc⟩ : ∃ c l, digF f (n / 10) = c :: l := by
     cases hq : digF f (n / 10) with
     | nil => exact absurd hq h3
     | cons c l => exact ⟨c, l, rfl⟩
    have hg : (digF f (n / 10) ++ [UInt8.ofNat (48 + n % 10)]).getD 0 0 = (digF f (n / 10)).getD 0 0 := by rw [hc]; rfl
    rw [hg]
    by_cases hl : 1 < (digF f (n / 10)).length
    ·exact h4 hl
    ·intro h48
     have hl0 : l = [] := by
      rw [hc] at hl
      cases l with
      | nil => rfl
      | cons a b => exact absurd (by simp) hl
     rw [hc, hl0] at h2 h48
     change c = 48 at h48
     subst h48
     have : valD [48] = 0 := by decide
     rw [this] at h2
     omega
theorem words_num {n : Nat} (hn : n ≤ maxU) {r : List UInt8} (hr : stopB r = true) (f : Nat) : wordsT (f + 1) (digF 24 n ++ r) = (2, digF 24 n, n) :: wordsT f r := by
 obtain ⟨h1, h2, h3, h4⟩ := dig_all 24 n (by unfold maxU at hn; omega)
 obtain ⟨c, l, hc⟩ : ∃ c l, digF 24 n = c :: l := by
  cases hq : digF 24 n with
  | nil => exact absurd hq h3
  | cons c l => exact ⟨c, l, rfl⟩
 have hw := while_stop digitB (fun _ h => digit_word h) (digF 24 n) r h1 hr
 have hc0 : digitB c = true := h1 c (by rw [hc]; exact List.mem_cons_self)
 have hg : (digF 24 n ++ r).getD 0 0 = c := by rw [hc]; rfl
 have hnl : letterB c = false := by
  cases hq : letterB c
  ·rfl
  ·rw [letter_digit hq] at hc0
   cases hc0
 have hok : okD (digF 24 n ++ r) = true := by
  unfold okD
  rw [hw, h2, decide_eq_true hn, hg]
  have e1 : (decide ((digF 24 n).length < (digF 24 n ++ r).length) && letterB ((digF 24 n ++ r).getD (digF 24 n).length 0)) = false := by
   cases r with
   | nil => simp
   | cons d r =>
    have : (digF 24 n ++ d :: r).getD (digF 24 n).length 0 = d := by simp [List.getD]
    rw [this]
    have hd : letterB d = false := by
     have h2 : (!wordB d) = true := hr
     cases hq : letterB d
     ·rfl
     ·rw [letter_word hq] at h2
      cases h2
    rw [hd, Bool.and_false]
  rw [e1]
  by_cases hl : 1 < (digF 24 n).length
  ·have := h4 hl
   rw [hc] at this
   change c ≠ 48 at this
   rw [decide_eq_false this, Bool.and_false]
   rfl
  ·rw [decide_eq_false hl]
   rfl
 have hwl : wl (digF 24 n ++ r) = some (2, digF 24 n, n) := by
  unfold wl
  rw [if_neg (by rw [hc]; simp), hg, if_neg (by rw [hnl]; decide), if_pos hc0, if_pos hok, hw, h2]
 have hsk : skipM false (digF 24 n ++ r) = digF 24 n ++ r := by
  rw [hc]
  exact skip_word (digit_word hc0) _
 conv => lhs; unfold wordsT
 rw [hsk, hwl]
 dsimp only
 rw [if_neg (by decide), List.drop_left]
theorem words_blank (f : Nat) (r : List UInt8) : wordsT (f + 1) (32 :: r) = wordsT (f + 1) r := wordsT_skip rfl f
theorem words_line (f : Nat) (r : List UInt8) : wordsT (f + 1) (10 :: r) = wordsT (f + 1) r := wordsT_skip rfl f
theorem words_tabs (f : Nat) (r : List UInt8) : ∀ n : Nat, wordsT (f + 1) (tabT n ++ r) = wordsT (f + 1) r
 | 0 => rfl
 | n + 1 => by
  rw [← words_tabs f r n]
  exact wordsT_skip rfl f
theorem words_sign1 {c : UInt8} (h : c ∈ [(40 : UInt8), 41, 123, 125, 91, 93, 44, 46, 58, 45]) (f : Nat) (r : List UInt8) : wordsT (f + 1) (c :: r) = (3, [c], 0) :: wordsT f r := by
 simp only [List.mem_cons, List.not_mem_nil, or_false] at h
 rcases h with rfl | rfl | rfl | rfl | rfl | rfl | rfl | rfl | rfl | rfl <;> kernel_rfl
theorem words_not (f : Nat) (r : List UInt8) (h : r.head? ≠ some 61) : wordsT (f + 1) (33 :: r) = (3, [33], 0) :: wordsT f r := by
 have hs : signAt (33 :: r) = some [33] := by
  unfold signAt signsL
  cases r with
  | nil => decide
  | cons d r =>
   have hd : (61 == d) = false := by
    rw [beq_eq_false_iff_ne]
    rintro rfl
    exact h rfl
   simp [List.find?, hasPre, List.isPrefixOf, hd]
 have hsk : skipM false (33 :: r) = 33 :: r := skip_stop 33 r (by decide) (fun h => absurd h.1 (by decide))
 have hwl : wl (33 :: r) = some (3, [33], 0) := by
  unfold wl
  rw [if_neg (by simp), if_neg (show ¬ letterB ((33 :: r).getD 0 0) = true by show ¬ letterB 33 = true; decide), if_neg (show ¬ digitB ((33 :: r).getD 0 0) = true by show ¬ digitB 33 = true; decide), hs]
 conv => lhs; unfold wordsT
 rw [hsk, hwl]
 rfl
theorem words_eq (f : Nat) (r : List UInt8) : wordsT (f + 1) (61 :: 32 :: r) = (3, [61], 0) :: wordsT f (32 :: r) := by kernel_rfl
theorem words_op {s : List UInt8} (h : 0 < rankS s) (f : Nat) (r : List UInt8) : wordsT (f + 1) (s ++ 32 :: r) = (3, s, 0) :: wordsT f (32 :: r) := by
 rcases rank_in s with ⟨x, hx, rfl⟩ | hn
 ·unfold rankT at hx
  simp only [List.mem_cons, List.not_mem_nil, or_false] at hx
  rcases hx with rfl | rfl | rfl | rfl | rfl | rfl | rfl | rfl | rfl | rfl | rfl | rfl | rfl | rfl | rfl | rfl | rfl | rfl <;> kernel_rfl
 ·unfold rankS at h
  rw [show rankT.find? (fun x => x.1 == s) = none from List.find?_eq_none.2 fun x hx hxs => by
   have := hn x hx
   rw [eq_of_beq hxs] at this
   simp at this] at h
  exact absurd h (by decide)
inductive OkT : TyT → Prop
 | bas (k : Int) : 1 ≤ k → k ≤ 6 → OkT (.mk k [] [])
 | nam (n : List UInt8) : identS n = true → OkT (.mk 7 n [])
 | sli (t : TyT) : OkT t → OkT (.mk 8 [] [t])
theorem ok_type : ∀ (t : TyT) (d p : Int), (tyS identS t d p).1 = true → OkT t
 | .mk k n es, d, p, h => by
  unfold tyS at h
  by_cases hp : partOk d p = false
  ·rw [if_pos hp] at h; cases h
  rw [if_neg hp] at h
  by_cases h1 : 1 ≤ k ∧ k ≤ 6
  ·rw [if_pos h1] at h
   simp only [Bool.and_eq_true, decide_eq_true_eq] at h
   obtain rfl := List.eq_nil_of_length_eq_zero h.2
   obtain rfl := h.1
   exact .bas k h1.1 h1.2
  rw [if_neg h1] at h
  by_cases h7 : k = 7
  ·subst h7
   rw [if_pos rfl] at h
   simp only [Bool.and_eq_true, decide_eq_true_eq] at h
   obtain rfl := List.eq_nil_of_length_eq_zero h.2
   exact .nam n h.1
  rw [if_neg h7] at h
  match es, h with
  | [e], h =>
   dsimp only at h
   by_cases h8 : k = 8 ∧ n = []
   ·rw [if_pos h8] at h
    have ih := ok_type e _ _ h
    obtain ⟨rfl, rfl⟩ := h8
    exact .sli e ih
   ·rw [if_neg h8] at h; cases h
  | [], h => cases h
  | _ :: _ :: _, h => cases h
mutual
def numE : ExT → Prop
 | .mk _ _ i _ _ ks => (0 ≤ i ∧ i ≤ 18446744073709551615) ∧ numEs ks
def numEs : List ExT → Prop
 | [] => True
 | x :: l => numE x ∧ numEs l
end
inductive OkE : Int → ExT → Prop
 | nam (d : Int) (t : List UInt8) : d ≤ 60 → identS t = true → OkE d (.mk 1 t 0 noT [] [])
 | num (d i : Int) : d ≤ 60 → 0 ≤ i → i ≤ 18446744073709551615 → OkE d (.mk 2 [] i noT [] [])
 | tru (d i : Int) : d ≤ 60 → 0 ≤ i → i ≤ 1 → OkE d (.mk 3 [] i noT [] [])
 | sgn (d k : Int) (y : ExT) : d ≤ 60 → k = 4 ∨ k = 5 → OkE (d + 1) y → OkE d (.mk k [] 0 noT [] [y])
 | bin (d : Int) (t : List UInt8) (y z : ExT) : d ≤ 60 → 0 < rankS t → OkE (d + 1) y → OkE (d + 1) z → OkE d (.mk 6 t 0 noT [] [y, z])
 | cal (d : Int) (t : List UInt8) (ks : List ExT) : d ≤ 60 → identS t = true → (∀ x ∈ ks, OkE (d + 1) x) → OkE d (.mk 7 t 0 noT [] ks)
 | con (d k : Int) (y : ExT) : d ≤ 60 → 2 ≤ k → k ≤ 6 → OkE (d + 1) y → OkE d (.mk 8 [] 0 (.mk k [] []) [] [y])
 | fld (d : Int) (t : List UInt8) (y : ExT) : d ≤ 60 → identS t = true → OkE (d + 1) y → OkE d (.mk 9 t 0 noT [] [y])
 | idx (d : Int) (y z : ExT) : d ≤ 60 → OkE (d + 1) y → OkE (d + 1) z → OkE d (.mk 10 [] 0 noT [] [y, z])
 | cut (d : Int) (y z u : ExT) : d ≤ 60 → OkE (d + 1) y → OkE (d + 1) z → OkE (d + 1) u → OkE d (.mk 11 [] 0 noT [] [y, z, u])
 | len (d : Int) (y : ExT) : d ≤ 60 → OkE (d + 1) y → OkE d (.mk 12 [] 0 noT [] [y])
 | app (d : Int) (y z : ExT) : d ≤ 60 → OkE (d + 1) y → OkE (d + 1) z → OkE d (.mk 13 [] 0 noT [] [y, z])
 | str (d : Int) (n : List UInt8) (ns : List (List UInt8)) (ks : List ExT) : d ≤ 60 → identS n = true → ns.length = ks.length → (∀ m ∈ ns, identS m = true) → (∀ x ∈ ks, OkE (d + 1) x) → OkE d (.mk 14 [] 0 (.mk 7 n []) ns ks)
 | lis (d : Int) (t : TyT) (ks : List ExT) : d ≤ 60 → OkT t → (∀ x ∈ ks, OkE (d + 1) x) → OkE d (.mk 15 [] 0 (.mk 8 [] [t]) [] ks)
theorem names_ident {l : List (List UInt8)} (h : diffS l.length l = true) : ∀ n ∈ l, identS n = true := by
 have hd : ∀ (j : Nat) (l : List (List UInt8)), diffS j l = true → ∀ i < j, identS (l.getD i []) = true := by
  intro j
  induction j with
  | zero => exact fun _ _ i hi => absurd hi (Nat.not_lt_zero _)
  | succ j ih =>
   intro l h i hi
   unfold diffS at h
   simp only [Bool.and_eq_true] at h
   rcases Nat.lt_or_ge i j with h1 | h1
   ·exact ih l h.1.1 i h1
   ·obtain rfl : i = j := by omega
    exact h.1.2
 intro n hn
 obtain ⟨i, hi, rfl⟩ := List.mem_iff_getElem.1 hn
 have := hd l.length l h i hi
 simpa [List.getD, hi] using this
theorem zero_noT {t : TyT} (h : zeroS t = true) : t = noT := by
 obtain ⟨k, n, es⟩ := t
 unfold zeroS at h
 simp only [Bool.and_eq_true] at h
 obtain ⟨⟨h1, h2⟩, h3⟩ := h
 obtain rfl : k = 0 := of_decide_eq_true h1
 obtain rfl : n = [] := of_decide_eq_true h2
 obtain rfl := List.eq_nil_of_length_eq_zero (show es.length = 0 from of_decide_eq_true h3)
 rfl
theorem bare_all {x : ExT} {d p : Int} (h : (bareS x d p).1 = true) : (bareT x d p).1 = true ∧ (¬ (x.kind = 1 ∨ x.kind = 7 ∨ x.kind = 9 ∨ x.kind = 6) → x.text = []) ∧ (¬ (x.kind = 2 ∨ x.kind = 3) → x.int = 0) ∧
 (¬ (x.kind = 8 ∨ x.kind = 14 ∨ x.kind = 15) → x.type = noT) ∧ (¬ x.kind = 14 → x.names = []) := by
 unfold bareS at h
 simp only [Bool.and_eq_true] at h
 obtain ⟨⟨⟨⟨h1, h2⟩, h3⟩, h4⟩, h5⟩ := h
 refine ⟨h1, fun hk => ?_, fun hk => ?_, fun hk => ?_, fun hk => ?_⟩
 ·rw [if_neg hk] at h2
  simpa using h2
 ·rw [if_neg hk] at h3
  simpa using h3
 ·rw [if_neg hk] at h4
  exact zero_noT (by simpa using h4)
 ·rw [if_neg hk] at h5
  simpa using h5
theorem ok_make {k : Int} {t : List UInt8} {i : Int} {ty : TyT} {ns : List (List UInt8)} {ks : List ExT} {d p : Int} (hd : d ≤ 60) (hm : ¬ (mostS k < (ks.length : Int) ∨ manyS k = -2 ∨ (0 ≤ manyS k ∧ (ks.length : Int) ≠ manyS k)))
 (hb : (bareS (.mk k t i ty ns ks) d p).1 = true) (hi : 0 ≤ i ∧ i ≤ 18446744073709551615) (hks : ∀ x ∈ ks, OkE (d + 1) x) : OkE d (.mk k t i ty ns ks) := by
 obtain ⟨b1, b2, b3, b4, b5⟩ := bare_all hb
 change ¬ (k = 1 ∨ k = 7 ∨ k = 9 ∨ k = 6) → t = [] at b2
 change ¬ (k = 2 ∨ k = 3) → i = 0 at b3
 change ¬ (k = 8 ∨ k = 14 ∨ k = 15) → ty = noT at b4
 change ¬ k = 14 → ns = [] at b5
 have c1 : (if k = 8 then (if 2 ≤ ty.kind ∧ ty.kind ≤ 6 then tyS identS ty (d + 1) p else (false, p))
  else if k = 14 then (if ty.kind = 7 then (if (tyS identS ty (d + 1) p).1 = true then (decide (ns.length = ks.length) && diffS ns.length ns, (tyS identS ty (d + 1) p).2) else (false, (tyS identS ty (d + 1) p).2)) else (false, p))
  else if k = 15 then (if ty.kind = 8 then tyS identS ty (d + 1) p else (false, p))
  else (if k = 1 ∨ k = 7 ∨ k = 9 then identS t else if k = 6 then decide (0 < rankS t) else if k = 3 then decide (i ≤ 1) else true, p)).1 = true := b1
 clear b1
 have hlen : 0 ≤ manyS k → (ks.length : Int) = manyS k := fun h => by
  by_cases e : (ks.length : Int) = manyS k
  ·exact e
  ·exact absurd (.inr (.inr ⟨h, e⟩)) hm
 have hne : ¬ manyS k = -2 := fun e => hm (.inr (.inl e))
 unfold manyS at hlen hne
 by_cases k8 : k = 8
 ·subst k8
  rw [if_pos rfl] at c1
  obtain rfl := b2 (by omega)
  obtain rfl := b3 (by omega)
  obtain rfl := b5 (by omega)
  have hl := hlen (by decide)
  by_cases hq : 2 ≤ ty.kind ∧ ty.kind ≤ 6
  ·rw [if_pos hq] at c1
   have := ok_type ty _ _ c1
   match ks, hl with
   | [y], _ =>
    cases this with
    | bas k' _ _ => exact .con d k' y hd hq.1 hq.2 (hks y (by simp))
    | nam _ _ => exact absurd hq.2 (by simp [TyT.kind])
    | sli _ _ => exact absurd hq.2 (by simp [TyT.kind])
   | [], h => exact absurd h (by decide)
   | _ :: _ :: _, h => simp at h; omega
  ·rw [if_neg hq] at c1; cases c1
 rw [if_neg k8] at c1
 by_cases k14 : k = 14
 ·subst k14
  rw [if_pos rfl] at c1
  obtain rfl := b2 (by omega)
  obtain rfl := b3 (by omega)
  by_cases hq : ty.kind = 7
  ·rw [if_pos hq] at c1
   by_cases ht : (tyS identS ty (d + 1) p).1 = true
   ·rw [if_pos ht] at c1
    simp only [Bool.and_eq_true, decide_eq_true_eq] at c1
    have := ok_type ty _ _ ht
    cases this with
    | bas k' h1 h2 => have : k' = 7 := hq; omega
    | nam n hn => exact .str d n ns ks hd hn c1.1 (names_ident c1.2) hks
    | sli _ _ => exact absurd hq (by simp [TyT.kind])
   ·rw [if_neg ht] at c1; cases c1
  ·rw [if_neg hq] at c1; cases c1
 rw [if_neg k14] at c1
 obtain rfl := b5 k14
 by_cases k15 : k = 15
 ·subst k15
  rw [if_pos rfl] at c1
  obtain rfl := b2 (by omega)
  obtain rfl := b3 (by omega)
  by_cases hq : ty.kind = 8
  ·rw [if_pos hq] at c1
   have := ok_type ty _ _ c1
   cases this with
   | bas k' h1 h2 => have : k' = 8 := hq; omega
   | nam n hn => exact absurd hq (by simp [TyT.kind])
   | sli t ht => exact .lis d t ks hd ht hks
  ·rw [if_neg hq] at c1; cases c1
 rw [if_neg k15] at c1
 obtain rfl := b4 (by omega)
 dsimp only at c1
 by_cases k1 : k = 1
 ·subst k1
  obtain rfl := b3 (by omega)
  obtain rfl := List.eq_nil_of_length_eq_zero (Int.ofNat_inj.1 (hlen (by decide)))
  exact .nam d t hd c1
 by_cases k7 : k = 7
 ·subst k7
  obtain rfl := b3 (by omega)
  exact .cal d t ks hd c1 hks
 by_cases k9 : k = 9
 ·subst k9
  obtain rfl := b3 (by omega)
  have hl := hlen (by decide)
  match ks, hl with
  | [y], _ => exact .fld d t y hd c1 (hks y (by simp))
  | [], h => exact absurd h (by decide)
  | _ :: _ :: _, h => simp at h; omega
 by_cases k6 : k = 6
 ·subst k6
  obtain rfl := b3 (by omega)
  have hl := hlen (by decide)
  match ks, hl with
  | [y, z], _ => exact .bin d t y z hd (of_decide_eq_true c1) (hks y (by simp)) (hks z (by simp))
  | [], h => exact absurd h (by decide)
  | [_], h => simp at h
  | _ :: _ :: _ :: _, h => simp at h; omega
 obtain rfl := b2 (by omega)
 by_cases k2 : k = 2
 ·subst k2
  obtain rfl := List.eq_nil_of_length_eq_zero (Int.ofNat_inj.1 (hlen (by decide)))
  exact .num d i hd hi.1 hi.2
 by_cases k3 : k = 3
 ·subst k3
  obtain rfl := List.eq_nil_of_length_eq_zero (Int.ofNat_inj.1 (hlen (by decide)))
  exact .tru d i hd hi.1 (of_decide_eq_true c1)
 obtain rfl := b3 (by omega)
 by_cases k45 : k = 4 ∨ k = 5
 ·have hl : (ks.length : Int) = 1 := by
   have := hlen
   rcases k45 with rfl | rfl <;> exact this (by decide)
  match ks, hl with
  | [y], _ => exact .sgn d k y hd k45 (hks y (by simp))
  | [], h => exact absurd h (by decide)
  | _ :: _ :: _, h => simp at h; omega
 by_cases k12 : k = 12
 ·subst k12
  have hl := hlen (by decide)
  match ks, hl with
  | [y], _ => exact .len d y hd (hks y (by simp))
  | [], h => exact absurd h (by decide)
  | _ :: _ :: _, h => simp at h; omega
 by_cases k10 : k = 10
 ·subst k10
  have hl := hlen (by decide)
  match ks, hl with
  | [y, z], _ => exact .idx d y z hd (hks y (by simp)) (hks z (by simp))
  | [], h => exact absurd h (by decide)
  | [_], h => simp at h
  | _ :: _ :: _ :: _, h => simp at h; omega
 by_cases k13 : k = 13
 ·subst k13
  have hl := hlen (by decide)
  match ks, hl with
  | [y, z], _ => exact .app d y z hd (hks y (by simp)) (hks z (by simp))
  | [], h => exact absurd h (by decide)
  | [_], h => simp at h
  | _ :: _ :: _ :: _, h => simp at h; omega
 by_cases k11 : k = 11
 ·subst k11
  have hl := hlen (by decide)
  match ks, hl with
  | [y, z, u], _ => exact .cut d y z u hd (hks y (by simp)) (hks z (by simp)) (hks u (by simp))
  | [], h => exact absurd h (by decide)
  | [_], h => simp at h
  | [_, _], h => simp at h
  | _ :: _ :: _ :: _ :: _, h => simp at h; omega
 ·exfalso
  apply hne
  rw [if_neg (by omega), if_neg (by omega), if_neg (by omega), if_neg (by omega), if_neg (by omega)]
mutual
theorem ok_expr : ∀ (x : ExT) (d p : Int), (exS x d p).1 = true → numE x → OkE d x
 | .mk k t i ty ns ks, d, p, h, hn => by
  unfold exS at h
  unfold numE at hn
  by_cases hp : partOk d p = false
  ·rw [if_pos hp] at h; cases h
  have hp2 : partOk d p = true := by simpa using hp
  rw [if_neg hp] at h
  by_cases h1 : mostS k < (ks.length : Int) ∨ manyS k = -2 ∨ (0 ≤ manyS k ∧ (ks.length : Int) ≠ manyS k)
  ·rw [if_pos h1] at h; cases h
  rw [if_neg h1] at h
  by_cases h2 : (bareS (.mk k t i ty ns ks) d (p + 1)).1 = false
  ·rw [if_pos h2] at h; cases h
  rw [if_neg h2] at h
  unfold partOk at hp2
  rw [Bool.and_eq_true, decide_eq_true_iff, decide_eq_true_iff] at hp2
  exact ok_make hp2.2 h1 (by simpa using h2) hn.1 (ok_exprs ks _ _ h hn.2)
theorem ok_exprs : ∀ (l : List ExT) (d p : Int), (exsS l d p).1 = true → numEs l → ∀ x ∈ l, OkE d x
 | [], _, _, _, _, x, hx => absurd hx List.not_mem_nil
 | y :: l, d, p, h, hn, x, hx => by
  unfold exsS at h
  unfold numEs at hn
  by_cases h1 : (exS y d p).1 = false
  ·rw [if_pos h1] at h; cases h
  rw [if_neg h1] at h
  rcases List.mem_cons.1 hx with e | hx
  ·rw [e]
   exact ok_expr y d p (by simpa using h1) hn.1
  ·exact ok_exprs l _ _ h hn.2 x hx
end
end Go.Proofs.YtfaoamebphckbaaGreatDoor
namespace Go.Proofs.YtfaoamebphckbaaGreatDoor
open Go.RowKit Go.Av Go.Ab
set_option linter.unusedSimpArgs false
set_option linter.unusedVariables false
set_option maxRecDepth 100000
set_option linter.defProp false
def c77 := by
 have c := KK_of Tryz.f77 (by conv => lhs; cbv)
 dsimp only [KK, KxP, doO, opO, List.map_cons, List.map_nil, List.toList_toArray] at c
 exact c
theorem b77 : FnIs Tryz.prog 77 Tryz.f77 14 := ⟨Tryz.func77, by kernel_rfl⟩
def c46 := by
 have c := KK_of Tryz.f46 (by conv => lhs; cbv)
 dsimp only [KK, KxP, doO, opO, List.map_cons, List.map_nil, List.toList_toArray] at c
 exact c
theorem b46 : FnIs Tryz.prog 46 Tryz.f46 30 := ⟨Tryz.func46, by kernel_rfl⟩
theorem gbasic_ab (k : Int) (B : List (List V)) (T : List (Nat × Nat)) : AFn Tryz.prog TabI 77 [.d (.int .i64 k)] ⟨B, T⟩ (Same (.d (.str (basT k))) ⟨B, T⟩) := by
 unfold basT
 refine b77.go 90 rfl fun _ => ?_
 simp only [W, seval, c77]
 repeat' ((first | refine guardB_of (fun h => ?_) (fun h => ?_) | refine condS_of (fun h => ?_) (fun h => ?_)) <;> simp only [W, seval, c77, h])
 all_goals
  refine ARun.ret Tryz.func77 rfl (Left.none ?_)
  refine ⟨?_, rfl⟩
  change V.d (.str _) = _
  simp only [decide_eq_true_eq, decide_eq_false_iff_not] at *
  simp [*]
set_option maxHeartbeats 1000000 in
theorem typ_pw {y : TyT} (h : OkT y) : PW 46 [tyV y] fun _ => typT y := by
 induction h with
 | bas q h1 h2 =>
  intro i t s k B T hin htm hk hb
  have e7 : decide (q = 7) = false := decide_eq_false (by omega)
  have e8 : decide (q = 8) = false := decide_eq_false (by omega)
  have hty : typT (.mk q [] []) = basT q := by
   unfold typT
   rw [if_neg (by omega), if_neg (by omega)]
  rw [hty] at hb ⊢
  obtain ⟨a, ha⟩ : ∃ a, s ++ basT q = a := ⟨_, rfl⟩
  dsimp only at hb ⊢
  rw [ha]
  change AFn _ _ _ [.ptr i 0, .agg [.d (.int .i64 q), .d (.str []), .d (.sl [])]] _ _
  refine b46.go 60 rfl fun hsm => ?_
  simp only [smw] at hsm
  simp only [W, seval, c46, e7, e8, hin, htm, mapD_nil, mapD_cons]
  refine callS_fn (gbasic_ab q _ _) ?_
  rintro _ _ ⟨rfl, rfl⟩
  refine ARun.go 60 ?_
  simp only [W, seval, c46, hin, htm, mapD_nil, mapD_cons]
  refine (put1 (basT q)).callJ hin htm hk ?_ fun s1 h_s1 => ?_
  ·try simp only [lnw]
   omega
  have hl_s1 := congrArg List.length h_s1
  simp only [lnw] at hl_s1
  refine ARun.go 60 ?_
  simp only [W, seval, c46]
  refine ARun.fin Tryz.func46 rfl (PW.retJ hin htm ?_)
  subst h_s1 ha
  exact ⟨rfl, by simp⟩
 | nam n hn =>
  intro i t s k B T hin htm hk hb
  have hty : typT (.mk 7 n []) = n := rfl
  rw [hty] at hb ⊢
  obtain ⟨a, ha⟩ : ∃ a, s ++ n = a := ⟨_, rfl⟩
  dsimp only at hb ⊢
  rw [ha]
  change AFn _ _ _ [.ptr i 0, .agg [.d (.int .i64 7), .d (.str n), .d (.sl [])]] _ _
  refine b46.go 60 rfl fun hsm => ?_
  simp only [smw] at hsm
  simp only [W, seval, c46, hin, htm, mapD_nil, mapD_cons]
  refine (put1 n).callJ hin htm hk ?_ fun s1 h_s1 => ?_
  ·try simp only [lnw]
   omega
  have hl_s1 := congrArg List.length h_s1
  simp only [lnw] at hl_s1
  refine ARun.go 60 ?_
  simp only [W, seval, c46]
  refine ARun.fin Tryz.func46 rfl (PW.retJ hin htm ?_)
  subst h_s1 ha
  exact ⟨rfl, by simp⟩
 | sli y hy ih =>
  intro i t s k B T hin htm hk hb
  have hty : typT (.mk 8 [] [y]) = [91, 93] ++ typT y := rfl
  rw [hty] at hb ⊢
  obtain ⟨a, ha⟩ : ∃ a, s ++ ([91, 93] ++ typT y) = a := ⟨_, rfl⟩
  dsimp only at hb ⊢
  rw [ha]
  simp only [lnw] at hb
  change AFn _ _ _ [.ptr i 0, .agg [.d (.int .i64 8), .d (.str []), .d (.sl [tyD y])]] _ _
  refine b46.go 60 rfl fun hsm => ?_
  simp only [smw] at hsm
  simp only [W, seval, c46, hin, htm, mapD_nil, mapD_cons]
  refine (put1 [91, 93]).callJ hin htm hk ?_ fun s1 h_s1 => ?_
  ·try simp only [lnw]
   omega
  have hl_s1 := congrArg List.length h_s1
  simp only [lnw] at hl_s1
  refine ARun.go 60 ?_
  simp only [W, seval, c46, hin, htm, tyD_eq]
  refine (ih).callJ hin htm hk ?_ fun s2 h_s2 => ?_
  ·try simp only [lnw]
   omega
  have hl_s2 := congrArg List.length h_s2
  simp only [lnw] at hl_s2
  refine ARun.go 60 ?_
  simp only [W, seval, c46]
  refine ARun.fin Tryz.func46 rfl (PW.retJ hin htm ?_)
  subst h_s1 h_s2 ha
  exact ⟨rfl, by simp⟩
def PF (bx : Ps → Nat → List V) (ok : Ps → Nat → Prop) (f : FuncId) (ar : List V) (s : Ps) (v : V) (s' : Ps) : Prop :=
 ∀ (c : Nat) (B : List (List V)) (T : List (Nat × Nat)) (i : Nat), c < B.length → ok s i → AFn Tryz.prog TabI f (.ptr c 0 :: ar) ⟨B.set c (bx s i), T⟩ fun v' m => v' = v ∧ ∃ i', ok s' i' ∧ m = ⟨B.set c (bx s' i'), T⟩
section
variable {bx : Ps → Nat → List V} {ok : Ps → Nat → Prop} {f : FuncId} {ar : List V} {s s' : Ps} {v : V} {c i : Nat} {B J : List (List V)} {T K : List (Nat × Nat)}
theorem PF.fn (h : PF bx ok f ar s v s') (hc : c < B.length) (hi : ok s i) : AFn Tryz.prog TabI f (.ptr c 0 :: ar) ⟨B.set c (bx s i) ++ J, T⟩ fun v' m => v' = v ∧ ∃ i', ok s' i' ∧ m = ⟨B.set c (bx s' i') ++ J, T⟩ := by
 have := h c (B ++ J) T i (by simp; omega) hi
 rw [List.set_append_left _ _ hc] at this
 refine this.mono ?_
 rintro v' m ⟨rfl, i', h1, rfl⟩
 exact ⟨rfl, i', h1, by rw [List.set_append_left _ _ hc]⟩
theorem PF.call {stop : Cont} {k : List Item} {d : Option Tmp} {env : List V} (h : PF bx ok f ar s v s') (hc : c < B.length) (hi : ok s i) (hk : ∀ i', ok s' i' → stop k (setV env d v) ⟨B.set c (bx s' i') ++ J, T⟩) : callS Tryz.prog TabI stop (.func f [] []) (.ptr c 0 :: ar) k d env ⟨B.set c (bx s i) ++ J, T⟩ :=
 callS_fn (h.fn hc hi) fun _ _ ⟨e1, i', h1, e2⟩ => by rw [e1, e2]; exact hk i' h1
theorem PF.call0 {stop : Cont} {k : List Item} {d : Option Tmp} {env : List V} (h : PF bx ok f ar s v s') (hc : c < B.length) (hi : ok s i) (hk : ∀ i', ok s' i' → stop k (setV env d v) ⟨B.set c (bx s' i'), T⟩) : callS Tryz.prog TabI stop (.func f [] []) (.ptr c 0 :: ar) k d env ⟨B.set c (bx s i), T⟩ :=
 callS_fn (h c B T i hc hi) fun _ _ ⟨e1, i', h1, e2⟩ => by rw [e1, e2]; exact hk i' h1
theorem PF.callm {stop : Cont} {k : List Item} {d : Option Tmp} {env : List V} (h : PF bx ok f ar s v s') (hc : c < B.length) (hi : ok s i) (hk : ∀ i', ok s' i' → stop k (setV env d v) ⟨B.set c (bx s' i'), T⟩) : callS Tryz.prog TabI stop (.func f [.ptr c 0] []) ar k d env ⟨B.set c (bx s i), T⟩ :=
 callS_of (Q := fun v' m => v' = v ∧ ∃ i', ok s' i' ∧ m = ⟨B.set c (bx s' i'), T⟩) (by simpa using h c B T i hc hi) fun _ _ ⟨e1, i', h1, e2⟩ => by rw [e1, e2]; exact hk i' h1
end
section
variable {B J : List (List V)} {T K : List (Nat × Nat)} {c : Nat} {x y : List V} {R : V → Mem → Prop} {v : V}
theorem PF.ret (hy : ∀ n m, y.all (fit n m) = true) (h : R (wk (B.set c x).length T.length v) ⟨B.set c y, T⟩) : Ab.Left ⟨B.set c x, T⟩ R v ⟨B.set c y ++ J, T ++ K⟩ := by
 refine Ab.Left.of (by simp) rfl ?_ h
 have := (FitL.refl (B.set c x).length T.length (B.set c x)).set c (hy _ _)
 rwa [List.set_set] at this
theorem PF.retJ (hy : ∀ n m, y.all (fit n m) = true) (h : R (wk (B.set c x).length T.length v) ⟨B.set c y, T⟩) : Ab.Left ⟨B.set c x, T⟩ R v ⟨B.set c y ++ J, T⟩ := by
 have := PF.ret (J := J) (K := []) hy h
 rwa [List.append_nil] at this
theorem PF.retK (hy : ∀ n m, y.all (fit n m) = true) (h : R (wk (B.set c x).length T.length v) ⟨B.set c y, T⟩) : Ab.Left ⟨B.set c x, T⟩ R v ⟨B.set c y, T ++ K⟩ := by
 have := PF.ret (J := []) (K := K) hy h
 rwa [List.append_nil] at this
theorem PF.ret0 (hy : ∀ n m, y.all (fit n m) = true) (h : R (wk (B.set c x).length T.length v) ⟨B.set c y, T⟩) : Ab.Left ⟨B.set c x, T⟩ R v ⟨B.set c y, T⟩ := by
 have := PF.retJ (J := []) hy h
 rwa [List.append_nil] at this
end
theorem retc {I : Inv} {z : Nat × Nat} {fn : FuncId} {R : V → Mem → Prop} {k : List Item} {env : List V} {S : Mem} {P : Program} {f : Func} {v : V} {a : Nat} {t : TypeId} (hf : P.funcs[fn]? = some f) (hr : f.results.toList = [.cell a t]) (hv : opLoad P S t (env.getD a .undef) = some v) (hR : R v S) : ARun P I z fn (.code .ret :: k) env S R :=
 ARun.ret hf (by rw [hr]; exact hv) hR
end Go.Proofs.YtfaoamebphckbaaGreatDoor
namespace Go.Ab
open Go.RowKit Go.Av
abbrev EvT := FuncId → List Item → List V → Mem → Option (V × Mem)
def evRes (P : Program) (fn : FuncId) (env : List V) (S : Mem) : Option (V × Mem) :=
 match P.funcs[fn]? with
 | some f => match resV P S env f.results.toList with
  | some v => some (v, S)
  | none => none
 | none => none
def evBack (S : Mem) (v : V) (S' : Mem) : V × Mem :=
 match fit S.boxes.length S'.toks.length v && (S'.boxes.take S.boxes.length).all (fun vs => vs.all (fit S.boxes.length S.toks.length)) && Nat.ble S.boxes.length S'.boxes.length && Nat.ble S.toks.length S'.toks.length with
 | true => (wk S.boxes.length S.toks.length v, ⟨S'.boxes.take S.boxes.length, S'.toks.take S.toks.length⟩)
 | false => (v, S')
def evIn (run : EvT) (g : FuncId) (body : Code) (init : List V) (S : Mem) : Option (V × Mem) :=
 match run g [.code body] init S with
 | some (v, S') => some (evBack S v S')
 | none => none
def evData (P : Program) (orc : FuncId → List V → Option V) (run : EvT) (g : FuncId) (args : List V) : Option V :=
 match P.funcs[g]? with
 | some f => match f.body with
  | some body => match orc g args with
   | some v => some (wk 0 0 v)
   | none => match run g [.code body] (args ++ List.replicate (f.ntmps - args.length) .undef) ⟨[], []⟩ with
    | some (v, S0) => match fit 0 S0.toks.length v with
     | true => some (wk 0 0 v)
     | false => none
    | none => none
  | none => none
 | none => none
def evAny (P : Program) (run : EvT) (g : FuncId) (args : List V) (S : Mem) : Option (V × Mem) :=
 match P.funcs[g]? with
 | some f => match f.body with
  | some body => evIn run g body (args ++ List.replicate (f.ntmps - args.length) .undef) S
  | none => none
 | none => none
def evFn (P : Program) (orc : FuncId → List V → Option V) (run : EvT) (g : FuncId) (args : List V) (S : Mem) : Option (V × Mem) :=
 match fitL 0 0 args with
 | true => match evData P orc run g (wkL 0 0 args) with
  | some v => some (v, S)
  | none => evAny P run g args S
 | false => evAny P run g args S
def evBind (run : EvT) (fn : FuncId) (r : Option (V × Mem)) (k : List Item) (d : Option Tmp) (env : List V) : Option (V × Mem) :=
 match r with
 | some (v, S) => run fn k (setV env d v) S
 | none => none
def evTok (P : Program) (env : List V) (S : Mem) (s : Operand) (t : TypeId) : List V × Mem :=
 match s with
 | .tmp q => match env.getD q .undef with
  | .sl rows .full => match tyOf P t with
   | some ti => match ti.d with
    | .slice e => match tyOf P e with
     | some te => match decide (0 < te.size) && rowsSz te.size rows with
      | true => (env.set q (.sl rows (.own S.toks.length)), { S with toks := S.toks ++ [(rows.length, te.size)] })
      | false => (env, S)
     | none => (env, S)
    | _ => (env, S)
   | none => (env, S)
  | _ => (env, S)
 | _ => (env, S)
def evOp (P : Program) (I : Inv) (orc : FuncId → List V → Option V) (run : EvT) (fn : FuncId) (ops : Array Oper) (rest : List Nat) (o : Oper) (k : List Item) (env : List V) (S : Mem) : Option (V × Mem) :=
 match o.op with
 | .call q => match q.callee with
  | .value f => match evalV I env f with
   | .func g first caps => evBind run fn (evFn P orc run g (first ++ q.args.toList.map (evalV I env) ++ caps) S) (.inRegion ops rest :: k) o.dst env
   | _ => none
  | .builtin .append => match q.args.toList, q.argTypes.toList with
   | [s, _], [t, _] => match evTok P env S s t with
    | (env', S') => evBind run fn (opCall P (evalV I env') S' q) (.inRegion ops rest :: k) o.dst env'
   | _, _ => none
  | _ => evBind run fn (opCall P (evalV I env) S q) (.inRegion ops rest :: k) o.dst env
 | op => evBind run fn (op1 P (evalV I env) S op) (.inRegion ops rest :: k) o.dst env
def evReg (P : Program) (I : Inv) (orc : FuncId → List V → Option V) (run : EvT) (fn : FuncId) (ops : Array Oper) (i : Nat) (rest : List Nat) (k : List Item) (env : List V) (S : Mem) : Option (V × Mem) :=
 match ops[i]? with
 | some o => match o.guard with
  | none => evOp P I orc run fn ops rest o k env S
  | some (j, want) => match guardV env ops j with
   | .d (.bool t) => match t == want with
    | true => evOp P I orc run fn ops rest o k env S
    | false => run fn (.inRegion ops rest :: k) (setV env o.dst (.tup [])) S
   | .tup [] => run fn (.inRegion ops rest :: k) (setV env o.dst (.tup [])) S
   | _ => none
 | none => none
def quietOp : Op → Bool
 | .move _ => true
 | .assign _ => true
 | .pick .. => true
 | .build .. => true
 | .load .. => true
 | .nilCheck _ => true
 | .binOp .. => true
 | .unOp .. => true
 | .makeFunc .. => true
 | .slice .. => true
 | .fieldAddr .. => true
 | .indexAddr .. => true
 | .index .. => true
 | .extract .. => true
 | _ => false
def evFst (r : Option (V × Mem)) : Option V :=
 match r with
 | some (v, _) => some v
 | none => none
def evQOp (P : Program) (I : Inv) (orc : FuncId → List V → Option V) (run : EvT) (o : Oper) (env : List V) (S : Mem) : Option V :=
 match o.op with
 | .call q => match q.callee with
  | .value f => match evalV I env f with
   | .func g first caps => match fitL 0 0 (first ++ q.args.toList.map (evalV I env) ++ caps) with
    | true => evData P orc run g (wkL 0 0 (first ++ q.args.toList.map (evalV I env) ++ caps))
    | false => none
   | _ => none
  | .builtin .len => evFst (opCall P (evalV I env) S q)
  | _ => none
 | op => match quietOp op with
  | true => evFst (op1 P (evalV I env) S op)
  | false => none
def evLex (P : Program) (I : Inv) (orc : FuncId → List V → Option V) (run : EvT) (ops : Array Oper) (S : Mem) : List Oper → List V → Option (List V)
 | [], env => some env
 | o :: l, env => match o.guard with
  | none => match evQOp P I orc run o env S with
   | some v => evLex P I orc run ops S l (setV env o.dst v)
   | none => none
  | some (j, want) => match guardV env ops j with
   | .d (.bool t) => match t == want with
    | true => match evQOp P I orc run o env S with
     | some v => evLex P I orc run ops S l (setV env o.dst v)
     | none => none
    | false => evLex P I orc run ops S l (setV env o.dst (.tup []))
   | .tup [] => evLex P I orc run ops S l (setV env o.dst (.tup []))
   | _ => none
def evCode (P : Program) (I : Inv) (orc : FuncId → List V → Option V) (run : EvT) (fn : FuncId) (c : Code) (k : List Item) (env : List V) (S : Mem) : Option (V × Mem) :=
 match c with
 | .seq a b => run fn (.code a :: .code b :: k) env S
 | .skip => run fn k env S
 | .label _ => run fn k env S
 | .block id a => run fn (.code a :: .inBlock id :: k) env S
 | .region _ ops false => run fn (.inRegion ops (upTo 0 ops.toList) :: k) env S
 | .region _ ops true => match P.follows .mixedOrders && Region.lexB .any ops with
  | true => match evLex P I orc run ops S ops.toList env with
   | some env' => run fn k env' S
   | none => none
  | false => none
 | .cond x a b => match evalV I env x with
  | .d (.bool t) => match t with
   | true => run fn (.code a :: k) env S
   | false => run fn (.code b :: k) env S
  | _ => none
 | .exit id => match exitTo id k with
  | some k' => run fn k' env S
  | none => none
 | .loop x => run fn (.code x :: .inLoop x :: k) env S
 | .ret => evRes P fn env S
 | _ => none
def evStep (P : Program) (I : Inv) (orc : FuncId → List V → Option V) (run : EvT) : EvT := fun fn k env S =>
 match k with
 | [] => evRes P fn env S
 | .code c :: k => evCode P I orc run fn c k env S
 | .inBlock _ :: k => run fn k env S
 | .inLoop x :: k => run fn (.code x :: .inLoop x :: k) env S
 | .inRegion _ [] :: k => run fn k env S
 | .inRegion ops (i :: rest) :: k => evReg P I orc run fn ops i rest k env S
 | _ => none
noncomputable def ev (P : Program) (I : Inv) (orc : FuncId → List V → Option V) (n : Nat) : EvT := Nat.rec (fun _ _ _ _ => none) (fun _ run => evStep P I orc run) n
def namesOk (P : Program) : Bool := P.funcs.toList.all fun f => !(f.name == "runtime.NumGoroutine")
section
variable {P : Program} {I : Inv} {orc : FuncId → List V → Option V}
def RunOk (P : Program) (I : Inv) (run : EvT) : Prop := ∀ fn k env S v S', run fn k env S = some (v, S') → ∀ z R, R v S' → ARun P I z fn k env S R
theorem names_at (hN : namesOk P = true) {g : FuncId} {f : Func} (hf : P.funcs[g]? = some f) : (f.name == "runtime.NumGoroutine") = false := by
 have := List.all_eq_true.1 hN f (by simpa using Array.mem_of_getElem? hf)
 simpa using this
theorem evBack_ok {S S' : Mem} {v : V} {g : FuncId} {args : List V} {Q : V → Mem → Prop} (h : ∀ R : V → Mem → Prop, R v S' → AFn P I g args S R) (hq : Q (evBack S v S').1 (evBack S v S').2) : AFn P I g args S Q := by
 unfold evBack at hq
 split at hq
 ·rename_i hc
  simp only [Bool.and_eq_true, Nat.ble_eq] at hc
  obtain ⟨⟨⟨_, h2⟩, h3⟩, h4⟩ := hc
  refine AFn.left (h _ ⟨S'.boxes.take S.boxes.length, S'.boxes.drop S.boxes.length, S'.toks.take S.toks.length, S'.toks.drop S.toks.length, by simp, by simp; omega, by simp; omega, fun i vs hi => .inr ?_, hq⟩)
  exact List.all_eq_true.1 h2 vs (List.mem_of_getElem? hi)
 ·exact h _ hq
theorem evData_ok (hN : namesOk P = true) (ho : ∀ g args v, orc g args = some v → AFn P I g args ⟨[], []⟩ (fun v' _ => v' = v)) {run : EvT} (hrun : RunOk P I run) {g : FuncId} {args : List V} {v : V} (h : evData P orc run g (wkL 0 0 args) = some v) (S : Mem) : AFn P I g args S fun v' S' => v' = v ∧ S' = S := by
 unfold evData at h
 split at h
 case h_2 => cases h
 rename_i f hf
 split at h
 case h_2 => cases h
 rename_i body hb
 have hn := names_at hN hf
 split at h
 ·rename_i v1 ho1
  obtain rfl := Option.some.inj h
  refine ((ho _ _ _ ho1).frame S).mono ?_
  rintro v' S'' ⟨rfl, v0, S0, rfl, rfl⟩
  exact ⟨rfl, rfl⟩
 ·split at h
  case h_2 => cases h
  rename_i v1 S1 h1
  split at h
  case h_2 => cases h
  obtain rfl := Option.some.inj h
  have hA : AFn P I g (wkL 0 0 args) ⟨[], []⟩ (fun v' _ => v' = v1) := AFn.enter hf hb hn (hrun _ _ _ _ _ _ h1 _ _ rfl)
  refine (hA.frame S).mono ?_
  rintro v' S'' ⟨rfl, v0, S0, rfl, rfl⟩
  exact ⟨rfl, rfl⟩
theorem evAny_ok (hN : namesOk P = true) {run : EvT} (hrun : RunOk P I run) {g : FuncId} {args : List V} {S S' : Mem} {v : V} (h : evAny P run g args S = some (v, S')) {Q : V → Mem → Prop} (hq : Q v S') : AFn P I g args S Q := by
 unfold evAny at h
 split at h
 case h_2 => cases h
 rename_i f hf
 split at h
 case h_2 => cases h
 rename_i body hb
 have hn := names_at hN hf
 unfold evIn at h
 split at h
 case h_2 => cases h
 rename_i v1 S1 h1
 have e := Option.some.inj h
 refine evBack_ok (v := v1) (S' := S1) (fun R hR => AFn.enter hf hb hn (hrun _ _ _ _ _ _ h1 _ _ hR)) ?_
 rw [e]; exact hq
theorem evFn_ok (hN : namesOk P = true) (ho : ∀ g args v, orc g args = some v → AFn P I g args ⟨[], []⟩ (fun v' _ => v' = v)) {run : EvT} (hrun : RunOk P I run) {g : FuncId} {args : List V} {S S' : Mem} {v : V} (h : evFn P orc run g args S = some (v, S')) {Q : V → Mem → Prop} (hq : Q v S') : AFn P I g args S Q := by
 unfold evFn at h
 split at h
 case h_2 => exact evAny_ok hN hrun h hq
 rename_i hfit
 split at h
 case h_2 => exact evAny_ok hN hrun h hq
 rename_i v1 h1
 obtain ⟨rfl, rfl⟩ := Prod.mk.inj (Option.some.inj h)
 refine (evData_ok hN ho hrun h1 S).mono ?_
 rintro v' S'' ⟨rfl, rfl⟩
 exact hq
theorem evFst_ok {r : Option (V × Mem)} {v : V} (h : evFst r = some v) : ∃ S, r = some (v, S) := by
 unfold evFst at h
 split at h
 case h_2 => cases h
 rename_i v1 S1
 obtain rfl := Option.some.inj h
 exact ⟨S1, rfl⟩
theorem still_mem {S S' : Mem} {r : Option V} {v : V} (h : still S r = some (v, S')) : S' = S := by
 obtain ⟨_, _, e⟩ := Option.map_eq_some_iff.1 h
 exact (Prod.mk.inj e).2.symm
theorem quiet_mem {ev : Operand → V} {S S' : Mem} {op : Op} {v : V} (hq : quietOp op = true) (h : op1 P ev S op = some (v, S')) : S' = S := by
 unfold op1 at h
 split at h <;> try (cases hq; done)
 all_goals first
  | exact still_mem h
  | (obtain ⟨_, rfl⟩ := Prod.mk.inj (Option.some.inj h); rfl)
  | (split at h <;> first
   | exact still_mem h
   | (obtain ⟨_, rfl⟩ := Prod.mk.inj (Option.some.inj h); rfl)
   | (cases h; done))
  | (cases h; done)
theorem evQOp_ok (hN : namesOk P = true) (ho : ∀ g args v, orc g args = some v → AFn P I g args ⟨[], []⟩ (fun v' _ => v' = v)) {run : EvT} (hrun : RunOk P I run) {o : Oper} {env : List V} {S : Mem} {v : V} (h : evQOp P I orc run o env S = some v) : QOp P I o env S v := by
 unfold evQOp at h
 split at h
 ·rename_i q hq
  split at h
  ·rename_i f hf
   split at h
   case h_2 => cases h
   rename_i g first caps hg
   split at h
   case h_2 => cases h
   rename_i hfit
   exact .inr ⟨q, f, g, first, caps, hq, hf, hg, evData_ok hN ho hrun h S⟩
  ·rename_i hb
   obtain ⟨S', h1⟩ := evFst_ok h
   have h2 : S' = S := by
    unfold opCall at h1
    rw [hb] at h1
    split at h1
    all_goals first
     | exact still_mem h1
     | (rename_i e _ _; cases e; done)
     | (cases h1; done)
   rw [h2] at h1
   exact .inl (by rw [hq]; exact h1)
  ·cases h
 ·split at h
  case h_2 => cases h
  rename_i hqo
  obtain ⟨S', h1⟩ := evFst_ok h
  have h2 := quiet_mem hqo h1
  rw [h2] at h1
  exact .inl h1
theorem evLex_ok (hN : namesOk P = true) (ho : ∀ g args v, orc g args = some v → AFn P I g args ⟨[], []⟩ (fun v' _ => v' = v)) {run : EvT} (hrun : RunOk P I run) {ops : Array Oper} {S : Mem} {K : List V → Prop} : ∀ (l : List Oper) (env env' : List V), evLex P I orc run ops S l env = some env' → K env' → lexA P I ops S K l env
 | [], env, env', h, hK => by
  obtain rfl := Option.some.inj h
  exact hK
 | o :: l, env, env', h, hK => by
  unfold evLex at h
  have go : Wants env ops o → (match evQOp P I orc run o env S with
   | some v => evLex P I orc run ops S l (setV env o.dst v)
   | none => none) = some env' → lexA P I ops S K (o :: l) env := by
   intro hw h
   split at h
   case h_2 => cases h
   rename_i v hv
   exact ⟨v, .inl ⟨hw, evQOp_ok hN ho hrun hv⟩, evLex_ok hN ho hrun l _ _ h hK⟩
  split at h
  ·rename_i hg
   exact go (.inl hg) h
  ·rename_i j want hg
   split at h
   ·rename_i t ht
    split at h
    ·rename_i hw
     have : t = want := by simpa using hw
     subst this
     exact go (.inr ⟨j, t, hg, ht⟩) h
    ·rename_i hw
     exact ⟨.tup [], .inr ⟨⟨j, want, hg, .inl ⟨t, ht, hw⟩⟩, rfl⟩, evLex_ok hN ho hrun l _ _ h hK⟩
   ·rename_i ht
    exact ⟨.tup [], .inr ⟨⟨j, want, hg, .inr ht⟩, rfl⟩, evLex_ok hN ho hrun l _ _ h hK⟩
   ·cases h
theorem evBind_ok {run : EvT} (hrun : RunOk P I run) {fn : FuncId} {r : Option (V × Mem)} {k : List Item} {d : Option Tmp} {env : List V} {v : V} {S' : Mem} (h : evBind run fn r k d env = some (v, S')) : ∃ v1 S1, r = some (v1, S1) ∧ ∀ z R, R v S' → ARun P I z fn k (setV env d v1) S1 R := by
 unfold evBind at h
 split at h
 case h_2 => cases h
 rename_i v1 S1
 exact ⟨v1, S1, rfl, hrun _ _ _ _ _ _ h⟩
theorem evTok_ok {env : List V} {S : Mem} {s : Operand} {t : TypeId} {env' : List V} {S1 : Mem} (h : evTok P env S s t = (env', S1)) {z : Nat × Nat} {fn : FuncId} {k : List Item} {R : V → Mem → Prop} (hr : ARun P I z fn k env' S1 R) : ARun P I z fn k env S R := by
 have hid : (env, S) = (env', S1) → ARun P I z fn k env S R := by
  intro e
  obtain ⟨rfl, rfl⟩ := Prod.mk.inj e
  exact hr
 unfold evTok at h
 split at h
 case h_2 => exact hid h
 rename_i q
 split at h
 case h_2 => exact hid h
 rename_i rows hq
 split at h
 case h_2 => exact hid h
 split at h
 case h_2 => exact hid h
 split at h
 case h_2 => exact hid h
 rename_i te _
 split at h
 case h_2 => exact hid h
 rename_i hc
 rw [Bool.and_eq_true, decide_eq_true_eq] at hc
 obtain ⟨rfl, rfl⟩ := Prod.mk.inj h
 exact ARun.token q rows hq te.size hc.1 hc.2 hr
theorem evTok_wants {env : List V} {S : Mem} {s : Operand} {t : TypeId} {env' : List V} {S1 : Mem} (h : evTok P env S s t = (env', S1)) {ops : Array Oper} {o : Oper} (hw : Wants env ops o) : Wants env' ops o := by
 have hid : (env, S) = (env', S1) → Wants env' ops o := by
  intro e
  obtain ⟨rfl, rfl⟩ := Prod.mk.inj e
  exact hw
 unfold evTok at h
 split at h
 case h_2 => exact hid h
 rename_i q
 split at h
 case h_2 => exact hid h
 rename_i rows hq
 split at h
 case h_2 => exact hid h
 split at h
 case h_2 => exact hid h
 split at h
 case h_2 => exact hid h
 rename_i te _
 split at h
 case h_2 => exact hid h
 obtain ⟨rfl, rfl⟩ := Prod.mk.inj h
 rcases hw with hw | ⟨j, t, h1, h2⟩
 ·exact .inl hw
 ·refine .inr ⟨j, t, h1, ?_⟩
  unfold guardV at h2 ⊢
  split
  ·rename_i u hu
   rw [hu] at h2
   simp only at h2
   by_cases e : q = u
   ·subst e
    rw [hq] at h2
    cases h2
   ·rw [List.getD_eq_getElem?_getD, List.getElem?_set_ne e, ← List.getD_eq_getElem?_getD]
    exact h2
  ·rename_i hu
   rw [hu] at h2
   exact h2
theorem evOp_ok (hN : namesOk P = true) (ho : ∀ g args v, orc g args = some v → AFn P I g args ⟨[], []⟩ (fun v' _ => v' = v)) {run : EvT} (hrun : RunOk P I run) {fn : FuncId} {ops : Array Oper} {i : Nat} {rest : List Nat} {o : Oper} {k : List Item} {env : List V} {S S' : Mem} {v : V} (hoi : ops[i]? = some o) (hw : Wants env ops o)
 (h : evOp P I orc run fn ops rest o k env S = some (v, S')) (z : Nat × Nat) (R : V → Mem → Prop) (hR : R v S') : ARun P I z fn (.inRegion ops (i :: rest) :: k) env S R := by
 unfold evOp at h
 split at h
 ·rename_i q hq
  split at h
  ·rename_i f hf
   split at h
   case h_2 => cases h
   rename_i g first caps hg
   obtain ⟨v1, S1, h1, h2⟩ := evBind_ok hrun h
   exact .call hoi hw hq hf hg (evFn_ok hN ho hrun h1 (h2 z R hR))
  ·rename_i hb
   split at h
   case h_2 => cases h
   rename_i s _ t _ _ _
   split at h
   rename_i env' S2 htok
   obtain ⟨v1, S1, h1, h2⟩ := evBind_ok hrun h
   exact evTok_ok htok (.op hoi (evTok_wants htok hw) (by rw [hq]; exact h1) (h2 z R hR))
  ·obtain ⟨v1, S1, h1, h2⟩ := evBind_ok hrun h
   exact .op hoi hw (by rw [hq]; exact h1) (h2 z R hR)
 ·obtain ⟨v1, S1, h1, h2⟩ := evBind_ok hrun h
  exact .op hoi hw h1 (h2 z R hR)
theorem evRes_ok {fn : FuncId} {env : List V} {S S' : Mem} {v : V} (h : evRes P fn env S = some (v, S')) : S' = S ∧ ∃ f, P.funcs[fn]? = some f ∧ resV P S env f.results.toList = some v := by
 unfold evRes at h
 split at h
 case h_2 => cases h
 rename_i f hf
 split at h
 case h_2 => cases h
 rename_i v1 hv
 obtain ⟨rfl, rfl⟩ := Prod.mk.inj (Option.some.inj h)
 exact ⟨rfl, f, hf, hv⟩
theorem evStep_ok (hN : namesOk P = true) (ho : ∀ g args v, orc g args = some v → AFn P I g args ⟨[], []⟩ (fun v' _ => v' = v)) {run : EvT} (hrun : RunOk P I run) : RunOk P I (evStep P I orc run) := by
 intro fn k env S v S' h z R hR
 unfold evStep at h
 split at h
 ·obtain ⟨rfl, f, hf, hv⟩ := evRes_ok h
  exact .fin hf hv hR
 ·rename_i c k
  unfold evCode at h
  split at h
  ·exact .seq (hrun _ _ _ _ _ _ h _ _ hR)
  ·exact .skip (hrun _ _ _ _ _ _ h _ _ hR)
  ·exact .label (hrun _ _ _ _ _ _ h _ _ hR)
  ·exact .block (hrun _ _ _ _ _ _ h _ _ hR)
  ·rw [upTo_ops] at h
   exact .region (hrun _ _ _ _ _ _ h _ _ hR)
  ·split at h
   case h_2 => cases h
   rename_i hc
   rw [Bool.and_eq_true] at hc
   split at h
   case h_2 => cases h
   rename_i env' he
   exact .draw hc.1 hc.2 (evLex_ok hN ho hrun _ _ _ he (hrun _ _ _ _ _ _ h _ _ hR))
  ·rename_i x a b
   split at h
   case h_2 => cases h
   rename_i t ht
   refine .cond ht ?_
   split at h
   ·exact hrun _ _ _ _ _ _ h _ _ hR
   ·exact hrun _ _ _ _ _ _ h _ _ hR
  ·split at h
   case h_2 => cases h
   rename_i k' hk
   exact .exit hk (hrun _ _ _ _ _ _ h _ _ hR)
  ·exact .loop (hrun _ _ _ _ _ _ h _ _ hR)
  ·obtain ⟨rfl, f, hf, hv⟩ := evRes_ok h
   exact .ret hf hv hR
  ·cases h
 ·exact .inBlock (hrun _ _ _ _ _ _ h _ _ hR)
 ·exact .inLoop (hrun _ _ _ _ _ _ h _ _ hR)
 ·exact .regionEnd (hrun _ _ _ _ _ _ h _ _ hR)
 ·rename_i ops i rest k
  unfold evReg at h
  split at h
  case h_2 => cases h
  rename_i o hoi
  split at h
  ·rename_i hg
   exact evOp_ok hN ho hrun hoi (.inl hg) h z R hR
  ·rename_i j want hg
   split at h
   ·rename_i t ht
    split at h
    ·rename_i hw
     have : t = want := by simpa using hw
     subst this
     exact evOp_ok hN ho hrun hoi (.inr ⟨j, t, hg, ht⟩) h z R hR
    ·rename_i hw
     exact .opSkip hoi ⟨j, want, hg, .inl ⟨t, ht, hw⟩⟩ (hrun _ _ _ _ _ _ h _ _ hR)
   ·rename_i ht
    exact .opSkip hoi ⟨j, want, hg, .inr ht⟩ (hrun _ _ _ _ _ _ h _ _ hR)
   ·cases h
 ·cases h
theorem ev_ok (hN : namesOk P = true) (ho : ∀ g args v, orc g args = some v → AFn P I g args ⟨[], []⟩ (fun v' _ => v' = v)) : ∀ n, RunOk P I (ev P I orc n)
 | 0 => fun _ _ _ _ _ _ h => by cases h
 | n + 1 => evStep_ok hN ho (ev_ok hN ho n)
end
noncomputable def evCall (P : Program) (I : Inv) (orc : FuncId → List V → Option V) (n : Nat) (g : FuncId) (args : List V) : Option V :=
 match evFn P orc (ev P I orc n) g args ⟨[], []⟩ with
 | some (v, _) => some v
 | none => none
theorem evCall_ok {P : Program} {I : Inv} {orc : FuncId → List V → Option V} (hN : namesOk P = true) (ho : ∀ g args v, orc g args = some v → AFn P I g args ⟨[], []⟩ (fun v' _ => v' = v)) {n : Nat} {g : FuncId} {args : List V} {v : V} (h : evCall P I orc n g args = some v) : AFn P I g args ⟨[], []⟩ (fun v' _ => v' = v) := by
 unfold evCall at h
 split at h
 case h_2 => cases h
 rename_i v1 S1 h1
 obtain rfl := Option.some.inj h
 exact evFn_ok hN ho (ev_ok hN ho n) h1 rfl
def noOrc : FuncId → List V → Option V := fun _ _ => none
theorem noOrc_ok {P : Program} {I : Inv} : ∀ g args v, noOrc g args = some v → AFn P I g args ⟨[], []⟩ (fun v' _ => v' = v) := fun _ _ _ h => by cases h
end Go.Ab
namespace Go.Ab
open Go.RowKit Go.Av
theorem AFn.sameW {P : Program} {I : Inv} {f : FuncId} {args args' : List V} {v : V} (h : AFn P I f args' ⟨[], []⟩ (fun v' _ => v' = v)) (hd : wkL 0 0 args = args') (hv : wk 0 0 v = v) (S : Mem) : AFn P I f args S (Same v S) :=
 AFn.mono (AFn.frame (R := fun v' _ => v' = v) (by rw [hd]; exact h) S) fun v' S' h => by
  obtain ⟨h1, v0, S0, h2, h3⟩ := h
  exact ⟨by rw [h3, h2, hv], h1⟩
theorem AFn.only {P : Program} {I : Inv} {f : FuncId} {args : List V} {v : V} {S : Mem} (h : AFn P I f args S (Same v S)) : AFn P I f args S (fun v' _ => v' = v) := h.mono fun _ _ h => h.1
end Go.Ab
namespace Go.Proofs.YtfaoamebphckbaaGreatDoor
open Go.RowKit Go.Av Go.Ab
set_option maxRecDepth 100000
theorem names_ok : namesOk Tryz.prog = true := by kernel_rfl
end Go.Proofs.YtfaoamebphckbaaGreatDoor
namespace Go.Proofs.YtfaoamebphckbaaGreatDoor
open Go.RowKit Go.Av Go.Ab
set_option linter.unusedSimpArgs false
set_option maxRecDepth 100000
set_option linter.defProp false
def c27 := by
 have c := KK_of Tryz.f27 (by conv => lhs; cbv)
 dsimp only [KK, KxP, doO, opO, List.map_cons, List.map_nil, List.toList_toArray] at c
 exact c
theorem b27 : FnIs Tryz.prog 27 Tryz.f27 13 := ⟨Tryz.func27, by kernel_rfl⟩
def c57 := by
 have c := KK_of Tryz.f57 (by conv => lhs; cbv)
 dsimp only [KK, KxP, doO, opO, List.map_cons, List.map_nil, List.toList_toArray] at c
 exact c
theorem b57 : FnIs Tryz.prog 57 Tryz.f57 31 := ⟨Tryz.func57, by kernel_rfl⟩
def byD (bs : List UInt8) : List (List D) := bs.map byteRow
def wdL (x : WordS) : List V := [.d (.int .i64 x.kind), .d (.str x.text), .d (.int .u64 x.int), .d (.int .i64 x.at'), .d (.int .i64 x.next)]
theorem text_len (bs : List UInt8) (i : Int) : (takeS bs i).1.text.length ≤ bs.length + 9 := by
 unfold takeS
 split
 ·simp [WordS.zero]
 ·unfold takeAt
  split
  ·simp
  ·split
   ·simp only [textAt, List.length_take, List.length_drop]; omega
   ·split
    ·split
     ·simp only [numberW, digitsAt, List.length_take, List.length_drop]; omega
     ·simp [WordS.zero]
    ·split
     ·rename_i s hs
      have h3 : ∀ s ∈ signsL, s.length ≤ 9 := by decide
      have := h3 s (List.mem_of_find?_eq_some hs)
      simp only
      omega
     ·simp [WordS.zero]
theorem take_nil_run : evCall Tryz.prog TabI noOrc 100000 96 [.d (.sl []), .d (.int .i64 0)] = some (.tup [.agg (wdL (takeS [] 0).1), .d (.int .i64 ((takeS [] 0).2 : Nat))]) := by kernel_rfl
theorem take_ab (bs : List UInt8) (_h0 : True) (hl : bs.length ≤ 400000) (i : Int) (S : Mem) : AFn Tryz.prog TabI 96 [.d (.sl (byD bs)), .d (.int .i64 i)] S (Same (.tup [.agg (wdL (takeS bs i).1), .d (.int .i64 ((takeS bs i).2 : Nat))]) S) := by
 by_cases hb0 : bs = [] ∧ i = 0
 ·obtain ⟨rfl, rfl⟩ := hb0
  exact AFn.sameW (evCall_ok names_ok noOrc_ok take_nil_run) rfl rfl S
 refine AFn.of_calls Tryz.func96 rfl (by kernel_rfl) fun c w xs h1 h2 h3 hI => ?_
 have hv0 := h2 0 (by simp)
 have hv1 := h2 1 (by simp)
 obtain ⟨x, y, rfl⟩ : ∃ x y, xs = #[x, y] := ⟨xs[0]'(by simp at h1; omega), xs[1]'(by simp at h1; omega), by
  apply Array.ext
  ·simpa using h1
  ·intro j hj hj'
   have : j = 0 ∨ j = 1 := by simp at hj'; omega
   rcases this with rfl | rfl <;> rfl⟩
 simp at hv0 hv1
 cases hv1 with
 | d _ _ hv1 => cases hv1 with
  | int => cases hv0 with
   | d _ _ hv0 => cases hv0 with
    | sl _ sz a cap f hsz hr hcp hm hs hd =>
     have hC : Calls Tryz.prog 96 #[.slice a (byD bs).length cap, .int .i64 i] w (Took (takeS bs i) w) := by
      by_cases hn0 : bs = []
      ·subst hn0
       have hi0 : ¬ i = 0 := fun h => hb0 ⟨rfl, h⟩
       have hr : takeS [] i = (WordS.zero, 2) := by
        unfold takeS
        rw [if_pos (by simp only [List.length_nil]; omega)]
       rw [hr]
       exact take_arg _ 0 i w ⟨_, _, rfl⟩ (by omega)
      have h0 := hn0
      have hne : byD bs ≠ [] := by simpa [byD] using h0
      obtain ⟨g, off, ha, hc⟩ := hs hne
      have hbl : (byD bs).length = bs.length := by simp [byD]
      have hz : sz = 1 := by
       obtain ⟨b, r, rfl⟩ : ∃ b r, bs = b :: r := by cases bs with
        | nil => exact absurd rfl h0
        | cons b r => exact ⟨b, r, rfl⟩
       exact (hr _ List.mem_cons_self).symm
      subst hz
      have hlp : 0 < bs.length := List.length_pos_iff.2 h0
      have hcell : ∀ j u, (bv bs)[j]? = some u → w.cell? ⟨g, off + j, none⟩ = some u := by
       intro j u hu
       obtain ⟨b, hb, rfl⟩ := bv_get? hu
       obtain ⟨hj, hb⟩ := List.getElem?_eq_some_iff.1 hb
       have hjD : j < (byD bs).length := by omega
       have hrow : (byD bs)[j] = [.int .u8 (b.toNat : Int)] := by simp [byD, hb, byteRow]
       have h4 := hc j hjD 0 (by rw [hrow]; simp)
       have h5 := hd j hjD 0 (by rw [hrow]; simp)
       simp only [hrow, List.getElem_cons_zero] at h5
       cases hf : f j 0 with
       | int k n =>
        rw [hf] at h5
        cases h5
        rw [← hf]
        simpa using h4.2
       | _ => rw [hf] at h5; cases h5
      have hg : g < w.heap.size := by
       have := hcell 0 (.int .u8 ((bs[0]'hlp).toNat : Int)) (bv_at (List.getElem?_eq_getElem hlp))
       exact cell_lt this
      exact gTake w.heap.size _ bs i w hI (.inr ⟨g, off, cap, by rw [ha, hbl], hg, by omega, hm, hcell⟩) (Nat.le_refl _)
     refine hC.mono ?_
     rintro e w' ⟨rfl, hb⟩
     have htl := text_len bs i
     refine ⟨_, _, rfl, ⟨rfl, rfl⟩, hb, .tup _ _ rfl fun j hj => ?_⟩
     have hj2 : j = 0 ∨ j = 1 := by simp at hj; omega
     rcases hj2 with rfl | rfl
     ·refine .agg _ _ rfl (fun j hj => ?_) (fun j hj => ?_)
      ·have hj5 : j = 0 ∨ j = 1 ∨ j = 2 ∨ j = 3 ∨ j = 4 := by simp [wdL] at hj; omega
       rcases hj5 with rfl | rfl | rfl | rfl | rfl
       ·exact .d _ _ (.int _ _)
       ·exact .d _ _ (.str _ (by omega))
       ·exact .d _ _ (.int _ _)
       ·exact .d _ _ (.int _ _)
       ·exact .d _ _ (.int _ _)
      ·have hj5 : j = 0 ∨ j = 1 ∨ j = 2 ∨ j = 3 ∨ j = 4 := by simp [wdL] at hj; omega
       rcases hj5 with rfl | rfl | rfl | rfl | rfl <;> rfl
     ·exact .d _ _ (.int _ _)
def bxP (bs : List UInt8) (s : Ps) : List V := [.d (.sl (byD bs)), .d (.int .i64 s.w.kind), .d (.str s.w.text), .d (.int .u64 s.w.int), .d (.int .i64 s.w.at'), .d (.int .i64 s.w.next), .d (.int .i64 s.e), .d (.int .i64 s.o), .d (.bool s.h)]
abbrev PP (bs : List UInt8) (f : FuncId) (ar : List V) (s : Ps) (v : V) (s' : Ps) : Prop := PF (fun s _ => bxP bs s) (fun s _ => OkP bs s) f ar s v s'
theorem PP.of {bs : List UInt8} {f : FuncId} {ar : List V} {s s' : Ps} {v : V} (h : ∀ (c : Nat) (B : List (List V)) (T : List (Nat × Nat)), c < B.length → OkP bs s → OkP bs s' ∧ AFn Tryz.prog TabI f (.ptr c 0 :: ar) ⟨B.set c (bxP bs s), T⟩ (Same v ⟨B.set c (bxP bs s'), T⟩)) : PP bs f ar s v s' :=
 fun c B T i hc hi => (h c B T hc hi).2.mono fun _ _ ⟨e1, e2⟩ => ⟨e1, i, (h c B T hc hi).1, e2⟩
theorem ok_fail {bs : List UInt8} {s : Ps} {e : Int} (he : ¬ e = 0) : OkP bs s → OkP bs (failP s e) := fun h => by
 unfold failP
 split
 ·exact ok_dead he
 ·exact h
theorem fail_raw (bs : List UInt8) (s : Ps) (e : Int) (c : Nat) (B : List (List V)) (T : List (Nat × Nat)) (hc : c < B.length) : AFn Tryz.prog TabI 27 [.ptr c 0, .d (.int .i64 e)] ⟨B.set c (bxP bs s), T⟩ (Same (.tup []) ⟨B.set c (bxP bs (failP s e)), T⟩) := by
 obtain ⟨N, hn⟩ : ∃ N, B.length = N := ⟨_, rfl⟩
 have hi : c < N := by omega
 unfold failP bxP
 refine b27.go 20 rfl fun hsm => ?_
 simp only [smw] at hsm
 simp only [W, seval, c27, hn, hi]
 cases h0 : decide (s.e = 0)
 ·have h0' := of_decide_eq_false h0
  simp only [W, seval, c27, h0]
  refine ARun.fin Tryz.func27 rfl (PF.ret0 (fun _ _ => rfl) ?_)
  rw [if_neg h0']
  exact ⟨rfl, rfl⟩
 ·have h0' := of_decide_eq_true h0
  simp only [W, seval, c27, hn, hi, h0]
  refine ARun.fin Tryz.func27 rfl (PF.ret0 (fun _ _ => rfl) ?_)
  rw [if_pos h0']
  exact ⟨rfl, rfl⟩
theorem fail_pp (bs : List UInt8) (s : Ps) (e : Int) (he : ¬ e = 0) : PP bs 27 [.d (.int .i64 e)] s (.tup []) (failP s e) := PP.of fun c B T hc hok => ⟨ok_fail he hok, fail_raw bs s e c B T hc⟩
def c58 := by
 have c := KK_of Tryz.f58 (by conv => lhs; cbv)
 dsimp only [KK, KxP, doO, opO, List.map_cons, List.map_nil, List.toList_toArray] at c
 exact c
theorem b58 : FnIs Tryz.prog 58 Tryz.f58 35 := ⟨Tryz.func58, by kernel_rfl⟩
theorem dec_nat (n k : Nat) : decide ((n : Int) = (k : Int)) = decide (n = k) := decide_eq_decide.2 (by omega)
theorem is_pp (bs : List UInt8) (s : Ps) (t : List UInt8) : PP bs 58 [.d (.str t)] s (.d (.bool (isP s t))) s := PP.of fun c B T hc hok => ⟨hok, by
 obtain ⟨N, hn⟩ : ∃ N, B.length = N := ⟨_, rfl⟩
 have hi : c < N := by omega
 have hk3 := dec_nat s.w.kind 3
 have hk4 := dec_nat s.w.kind 4
 simp only [Int.cast_ofNat_Int] at hk3 hk4
 unfold isP bxP
 cases h0 : decide (s.e = 0)
 ·refine b58.go 60 rfl fun hsm => ?_
  simp only [smw] at hsm
  simp only [W, seval, c58, hn, hi, hk3, hk4, h0]
  refine ARun.ret Tryz.func58 rfl (PF.ret0 (fun _ _ => rfl) ?_)
  exact ⟨rfl, rfl⟩
 ·cases h3 : decide (s.w.kind = 3) <;> cases h4 : decide (s.w.kind = 4)
  all_goals
   refine b58.go 60 rfl fun hsm => ?_
   simp only [smw] at hsm
   simp only [W, seval, c58, hn, hi, hk3, hk4, h0, h3, h4]
   refine ARun.ret Tryz.func58 rfl (PF.ret0 (fun _ _ => rfl) ?_)
   exact ⟨rfl, rfl⟩⟩
theorem next_raw (bs : List UInt8) (h0 : True) (hl : bs.length ≤ 400000) (s t : Ps) (he : s.e = 0) (hw : (takeS bs s.w.next).2 = 0 → t.w = (takeS bs s.w.next).1 ∧ t.e = 0) (hw2 : ¬ (takeS bs s.w.next).2 = 0 → t.w = s.w ∧ t.e = (takeS bs s.w.next).2) (ho : t.o = s.o) (hh : t.h = s.h) (c : Nat) (B : List (List V)) (T : List (Nat × Nat)) (hc : c < B.length) :
 AFn Tryz.prog TabI 57 [.ptr c 0] ⟨B.set c (bxP bs s), T⟩ (Same (.tup []) ⟨B.set c (bxP bs t), T⟩) := by
 obtain ⟨N, hn⟩ : ∃ N, B.length = N := ⟨_, rfl⟩
 have hi : c < N := by omega
 have hd : decide (s.e = 0) = true := decide_eq_true he
 have htk := take_ab bs h0 hl s.w.next
 have hfl := fail_raw bs s (takeS bs s.w.next).2 c (B ++ [wdL (takeS bs s.w.next).1]) T (by simp; omega)
 rw [List.set_append_left _ _ hc, List.set_append_left _ _ hc] at hfl
 have hfs : failP s ((takeS bs s.w.next).2 : Nat) = ⟨s.ws, ((takeS bs s.w.next).2 : Nat), s.o, s.h⟩ := if_pos he
 rw [hfs] at hfl
 unfold bxP
 refine b57.go 20 rfl fun hsm => ?_
 simp only [smw] at hsm
 simp only [W, seval, c57, hn, hi, hd]
 obtain ⟨M, hM0, hM1, hM2, hb0⟩ : ∃ M : Nat → Mem, M 0 = ⟨B.set c (bxP bs s), T⟩ ∧ M 1 = ⟨B.set c (bxP bs s) ++ [[V.d (D.int IntKind.i64 0), V.d (D.str []), V.d (D.int IntKind.u64 0), V.d (D.int IntKind.i64 0), V.d (D.int IntKind.i64 0)]], T⟩ ∧ M 2 = ⟨B.set c (bxP bs s) ++ [wdL (takeS bs s.w.next).1], T⟩ ∧ ∀ b, (M b).boxes[c]? = some (bxP bs s) :=
  ⟨mems [_, _, _], rfl, rfl, rfl, mems_all _ (fun m => m.boxes[c]? = some (bxP bs s)) (fun m hm => by
   simp only [List.mem_cons, List.not_mem_nil, or_false] at hm
   rcases hm with rfl | rfl | rfl
   ·exact bx_get hc
   ·rw [bx_old (by simpa using hc)]; exact bx_get hc
   ·rw [bx_old (by simpa using hc)]; exact bx_get hc) (by simp)⟩
 unfold bxP at hM0 hM1 hM2 hb0
 refine ARun.drawW [13, 14] M hM0 (by kernel_rfl) (by kernel_rfl) (by kernel_rfl) ?_
 simp only [W, seval, c57]
 refine lexW_q (env' := ?_) (by rfl) (fun b => ?_) ?_
 rotate_left
 ·simp only [W, seval, c57]
  exact rfl
 refine lexW_q (env' := ?_) (by rfl) (fun b => ?_) ?_
 rotate_left
 ·simp only [W, seval, c57]
  exact rfl
 refine lexW_q (env' := ?_) (by rfl) (fun b => ?_) ?_
 rotate_left
 ·simp only [W, seval, c57]
  exact rfl
 refine lexW_q (env' := ?_) (by rfl) (fun b => ?_) ?_
 rotate_left
 ·simp only [W, seval, c57, hb0]
  exact rfl
 refine lexW_q (env' := ?_) (by rfl) (fun b => ?_) ?_
 rotate_left
 ·simp only [W, seval, c57]
  exact rfl
 refine lexW_q (env' := ?_) (by rfl) (fun b => ?_) ?_
 rotate_left
 ·simp only [W, seval, c57]
  exact rfl
 refine lexW_q (env' := ?_) (by rfl) (fun b => ?_) ?_
 rotate_left
 ·simp only [W, seval, c57]
  exact rfl
 refine lexW_q (env' := ?_) (by rfl) (fun b => ?_) ?_
 rotate_left
 ·simp only [W, seval, c57]
  exact rfl
 refine lexW_q (env' := ?_) (by rfl) (fun b => ?_) ?_
 rotate_left
 ·simp only [W, seval, c57, hb0]
  exact rfl
 refine lexW_q (env' := ?_) (by rfl) (fun b => ?_) ?_
 rotate_left
 ·simp only [W, seval, c57, hn, hi]
  refine ⟨_, htk (M b), ?_⟩
  exact rfl
 refine lexW_q (env' := ?_) (by rfl) (fun b => ?_) ?_
 rotate_left
 ·simp only [W, seval, c57]
  exact rfl
 refine lexW_q (env' := ?_) (by rfl) (fun b => ?_) ?_
 rotate_left
 ·simp only [W, seval, c57]
  exact rfl
 refine lexW_q (env' := ?_) (by rfl) (fun b => ?_) ?_
 rotate_left
 ·simp only [W, seval, c57]
  exact rfl
 refine lexW_w (v := ?_) (by rfl) (by kernel_rfl) ?_ ?_
 rotate_left
 ·simp only [W, seval, c57, mems_0, mems_1, mems_2, mems_3, hM0, hM1, hn]
  exact rfl
 refine lexW_w (v := ?_) (by rfl) (by kernel_rfl) ?_ ?_
 rotate_left
 ·simp only [W, seval, c57, mems_0, mems_1, mems_2, mems_3, hM1, hM2, hn, wdL]
  exact rfl
 refine lexW_q (env' := ?_) (by rfl) (fun b => ?_) ?_
 rotate_left
 ·simp only [W, seval, c57]
  exact rfl
 refine lexW_end ?_
 rw [hM2]
 by_cases ht : (takeS bs s.w.next).2 = 0
 ·have ht0 : decide (((takeS bs s.w.next).2 : Int) = 0) = true := decide_eq_true (by omega)
  obtain ⟨e1, e2⟩ := hw ht
  have hc2 : c < B.length + 1 := by omega
  refine ARun.go 40 ?_
  simp only [W, seval, c57, hn, hi, ht0, wdL]
  refine ARun.fin Tryz.func57 rfl (PF.retJ (fun _ _ => rfl) ?_)
  rw [← he] at e2
  rw [e1, e2, ho, hh]
  exact ⟨rfl, rfl⟩
 ·have ht0 : decide (((takeS bs s.w.next).2 : Int) = 0) = false := decide_eq_false (by omega)
  obtain ⟨e1, e2⟩ := hw2 ht
  refine ARun.go 20 ?_
  simp only [W, seval, c57, hn, hi, ht0]
  refine callS_fn hfl ?_
  rintro _ _ ⟨rfl, rfl⟩
  refine ARun.go 40 ?_
  simp only [W, seval, c57, hn, hi]
  refine ARun.ret Tryz.func57 rfl (PF.retJ (fun _ _ => rfl) ?_)
  rw [e1, e2, ho, hh]
  exact ⟨rfl, rfl⟩
theorem next_pp (bs : List UInt8) (h0 : True) (hl : bs.length ≤ 400000) (s : Ps) (hk : s.e = 0 → ¬ s.w.kind = 0) : PP bs 57 [] s (.tup []) (nextP s) := PP.of fun c B T hc hok => by
 obtain ⟨N, hn⟩ : ∃ N, B.length = N := ⟨_, rfl⟩
 have hi : c < N := by omega
 by_cases he : s.e = 0
 ·have hnx := next_live hok he (hk he)
  have herr := take_err bs s.w.next (hok he).2.1
  refine ⟨hnx.2.2.2, next_raw bs h0 hl s (nextP s) he (fun h => ?_) (fun h => ?_) hnx.2.1 hnx.2.2.1 c B T hc⟩
  ·have := hnx.1
   rwa [if_pos h] at this
  ·have := hnx.1
   rw [if_neg h] at this
   exact ⟨this.1, this.2.trans (by omega)⟩
 ·rw [next_dead he]
  refine ⟨hok, ?_⟩
  have hd : decide (s.e = 0) = false := decide_eq_false he
  unfold bxP
  refine b57.go 60 rfl fun hsm => ?_
  simp only [smw] at hsm
  simp only [W, seval, c57, hn, hi, hd]
  refine ARun.ret Tryz.func57 rfl (PF.ret0 (fun _ _ => rfl) ?_)
  exact ⟨rfl, rfl⟩
def c24 := by
 have c := KK_of Tryz.f24 (by conv => lhs; cbv)
 dsimp only [KK, KxP, doO, opO, List.map_cons, List.map_nil, List.toList_toArray] at c
 exact c
theorem b24 : FnIs Tryz.prog 24 Tryz.f24 41 := ⟨Tryz.func24, by kernel_rfl⟩
def c22 := by
 have c := KK_of Tryz.f22 (by conv => lhs; cbv)
 dsimp only [KK, KxP, doO, opO, List.map_cons, List.map_nil, List.toList_toArray] at c
 exact c
theorem b22 : FnIs Tryz.prog 22 Tryz.f22 10 := ⟨Tryz.func22, by kernel_rfl⟩
def c23 := by
 have c := KK_of Tryz.f23 (by conv => lhs; cbv)
 dsimp only [KK, KxP, doO, opO, List.map_cons, List.map_nil, List.toList_toArray] at c
 exact c
theorem b23 : FnIs Tryz.prog 23 Tryz.f23 27 := ⟨Tryz.func23, by kernel_rfl⟩
def c174 := by
 have c := KK_of Tryz.f174 (by conv => lhs; cbv)
 dsimp only [KK, KxP, doO, opO, List.map_cons, List.map_nil, List.toList_toArray] at c
 exact c
theorem b174 : FnIs Tryz.prog 174 Tryz.f174 27 := ⟨Tryz.func174, by kernel_rfl⟩
def c97 := by
 have c := KK_of Tryz.f97 (by conv => lhs; cbv)
 dsimp only [KK, KxP, doO, opO, List.map_cons, List.map_nil, List.toList_toArray] at c
 exact c
theorem b97 : FnIs Tryz.prog 97 Tryz.f97 16 := ⟨Tryz.func97, by kernel_rfl⟩
section
variable {bs : List UInt8} {f : FuncId} {ar : List V} {s s' : Ps} {v : V} {c : Nat} {B J : List (List V)} {T : List (Nat × Nat)} {stop : Cont} {k : List Item} {d : Option Tmp} {env : List V}
theorem PP.call0 (h : PP bs f ar s v s') (hc : c < B.length) (hok : OkP bs s) (hk : OkP bs s' → stop k (setV env d v) ⟨B.set c (bxP bs s'), T⟩) : callS Tryz.prog TabI stop (.func f [] []) (.ptr c 0 :: ar) k d env ⟨B.set c (bxP bs s), T⟩ :=
 PF.call0 (i := 0) h hc hok fun _ => hk
theorem PP.call (h : PP bs f ar s v s') (hc : c < B.length) (hok : OkP bs s) (hk : OkP bs s' → stop k (setV env d v) ⟨B.set c (bxP bs s') ++ J, T⟩) : callS Tryz.prog TabI stop (.func f [] []) (.ptr c 0 :: ar) k d env ⟨B.set c (bxP bs s) ++ J, T⟩ :=
 PF.call (i := 0) h hc hok fun _ => hk
end
theorem ok_next {bs : List UInt8} {s : Ps} (hok : OkP bs s) (hk : s.e = 0 → ¬ s.w.kind = 0) : OkP bs (nextP s) := by
 by_cases he : s.e = 0
 ·exact (next_live hok he (hk he)).2.2.2
 ·rw [next_dead he]; exact hok
theorem bump_wk (s : Ps) (t : List UInt8) : (bumpP s t).w = s.w := by unfold Ps.w; rw [bump_w]
set_option maxHeartbeats 1000000 in
theorem got_pp (bs : List UInt8) (h0 : True) (hl : bs.length ≤ 400000) (s : Ps) (t : List UInt8) : PP bs 24 [.d (.str t)] s (.d (.bool (gotP s t).1)) (gotP s t).2 := PP.of fun c B T hc hok => by
 obtain ⟨N, hn⟩ : ∃ N, B.length = N := ⟨_, rfl⟩
 have hi : c < N := by omega
 cases hb : isP s t
 ·have hg : gotP s t = (false, s) := by unfold gotP; rw [hb]; rfl
  rw [hg]
  refine ⟨hok, ?_⟩
  refine b24.go 20 rfl fun hsm => ?_
  simp only [smw] at hsm
  simp only [W, seval, c24, hn, hi]
  refine PP.call0 (is_pp bs s t) hc hok fun _ => ?_
  refine ARun.go 20 ?_
  simp only [W, seval, c24, hb]
  refine ARun.ret Tryz.func24 rfl (PF.ret0 (fun _ _ => rfl) ?_)
  exact ⟨rfl, rfl⟩
 ·have hlv := is_live hb
  have hg : gotP s t = (true, nextP (bumpP s t)) := by unfold gotP; rw [hb]; rfl
  rw [hg]
  have hkb : (bumpP s t).e = 0 → ¬ (bumpP s t).w.kind = 0 := fun _ => by rw [bump_wk]; omega
  have hokb : OkP bs (bumpP s t) := ok_same hok (bump_w s t) (fun _ => hlv.1)
  have hnx := next_pp bs h0 hl (bumpP s t) hkb
  refine ⟨ok_next hokb hkb, ?_⟩
  generalize hF : nextP (bumpP s t) = F at hnx ⊢
  by_cases hw : 100 < IntKind.i64.wrap (s.o + 1)
  ·have hwd := decide_eq_true hw
   refine b24.go 20 rfl fun hsm => ?_
   simp only [smw] at hsm
   simp only [W, seval, c24, hn, hi]
   refine PP.call0 (is_pp bs s t) hc hok fun _ => ?_
   refine ARun.go 140 ?_
   simp only [W, seval, c24, hn, hi, hb, bxP, hwd]
   repeat' ((first | refine guardB_of (fun h => ?_) (fun h => ?_) | refine condS_of (fun h => ?_) (fun h => ?_)) <;> simp only [W, seval, c24, h, hn, hi, hwd])
   all_goals
    first
     | (have e : bumpP s t = failP ⟨s.ws, s.e, IntKind.i64.wrap (s.o + 1), s.h⟩ 51 := by simp [bumpP, opnB, clsB, *]
        rw [e] at hnx hokb
        refine callS_fn (fail_raw bs ⟨s.ws, s.e, IntKind.i64.wrap (s.o + 1), s.h⟩ 51 c B T hc) ?_
        rintro _ _ ⟨rfl, rfl⟩
        refine ARun.go 10 ?_
        simp only [W, seval, c24, hn, hi]
        refine PP.call0 hnx hc hokb fun _ => ?_)
     | (have e : bumpP s t = ⟨s.ws, s.e, IntKind.i64.wrap (s.o - 1), s.h⟩ := by simp [bumpP, opnB, clsB, *]
        rw [e] at hnx hokb
        refine PP.call0 hnx hc hokb fun _ => ?_)
     | (have e : bumpP s t = s := by simp [bumpP, opnB, clsB, *]
        rw [e] at hnx hokb
        refine PP.call0 hnx hc hokb fun _ => ?_)
   all_goals
    refine ARun.go 20 ?_
    simp only [W, seval, c24, hn, hi]
    refine ARun.ret Tryz.func24 rfl (PF.ret0 (fun _ _ => rfl) ?_)
    exact ⟨rfl, rfl⟩
  ·have hwd := decide_eq_false hw
   refine b24.go 20 rfl fun hsm => ?_
   simp only [smw] at hsm
   simp only [W, seval, c24, hn, hi]
   refine PP.call0 (is_pp bs s t) hc hok fun _ => ?_
   refine ARun.go 140 ?_
   simp only [W, seval, c24, hn, hi, hb, bxP, hwd]
   repeat' ((first | refine guardB_of (fun h => ?_) (fun h => ?_) | refine condS_of (fun h => ?_) (fun h => ?_)) <;> simp only [W, seval, c24, h, hn, hi, hwd])
   all_goals
    first
     | (have e : bumpP s t = ⟨s.ws, s.e, IntKind.i64.wrap (s.o + 1), s.h⟩ := by simp only [bumpP, opnB, clsB, *]; rfl
        rw [e] at hnx hokb
        refine PP.call0 hnx hc hokb fun _ => ?_)
     | (have e : bumpP s t = ⟨s.ws, s.e, IntKind.i64.wrap (s.o - 1), s.h⟩ := by simp [bumpP, opnB, clsB, *]
        rw [e] at hnx hokb
        refine PP.call0 hnx hc hokb fun _ => ?_)
     | (have e : bumpP s t = s := by simp [bumpP, opnB, clsB, *]
        rw [e] at hnx hokb
        refine PP.call0 hnx hc hokb fun _ => ?_)
   all_goals
    refine ARun.go 20 ?_
    simp only [W, seval, c24, hn, hi]
    refine ARun.ret Tryz.func24 rfl (PF.ret0 (fun _ _ => rfl) ?_)
    exact ⟨rfl, rfl⟩
theorem want_pp (bs : List UInt8) (h0 : True) (hl : bs.length ≤ 400000) (s : Ps) (t : List UInt8) : PP bs 22 [.d (.str t)] s (.tup []) (wantP s t) := by
 intro c B T i hc hok
 have hgp := got_pp bs h0 hl s t
 unfold wantP
 rcases hg : gotP s t with ⟨b, s1⟩
 rw [hg] at hgp
 refine b22.go 20 rfl fun _ => ?_
 simp only [W, seval, c22]
 refine PP.call0 hgp hc hok fun hok1 => ?_
 cases b
 ·refine ARun.go 20 ?_
  simp only [W, seval, c22]
  refine PP.call0 (fail_pp bs s1 51 (by decide)) hc hok1 fun hok2 => ?_
  refine ARun.go 20 ?_
  simp only [W, seval, c22]
  refine ARun.fin Tryz.func22 rfl (PF.ret0 (fun _ _ => rfl) ?_)
  exact ⟨rfl, 0, hok2, rfl⟩
 ·refine ARun.go 20 ?_
  simp only [W, seval, c22]
  refine ARun.fin Tryz.func22 rfl (PF.ret0 (fun _ _ => rfl) ?_)
  exact ⟨rfl, 0, hok1, rfl⟩
theorem name_pp (bs : List UInt8) (h0 : True) (hl : bs.length ≤ 400000) (s : Ps) : PP bs 23 [] s (.d (.str (nameP s).1)) (nameP s).2 := by
 intro c B T i hc hok
 obtain ⟨N, hn⟩ : ∃ N, B.length = N := ⟨_, rfl⟩
 have hi : c < N := by omega
 have hk1 := dec_nat s.w.kind 1
 simp only [Int.cast_ofNat_Int, Int.natCast_one] at hk1
 have hfl := fail_pp bs s 51 (by decide)
 have hno : ¬ (s.e = 0 ∧ s.w.kind = 1) → nameP s = ([], failP s 51) := fun h => if_neg h
 have hyes : s.e = 0 ∧ s.w.kind = 1 → nameP s = (s.w.text, nextP s) := fun h => if_pos h
 cases h1 : decide (s.e = 0)
 ·rw [hno (fun h => absurd h.1 (of_decide_eq_false h1))]
  refine b23.go 60 rfl fun hsm => ?_
  simp only [smw] at hsm
  simp only [W, seval, c23, hn, hi, bxP, h1]
  refine PP.call0 hfl hc hok fun hok2 => ?_
  refine ARun.go 20 ?_
  simp only [W, seval, c23]
  refine ARun.ret Tryz.func23 rfl (PF.ret0 (fun _ _ => rfl) ?_)
  exact ⟨rfl, 0, hok2, rfl⟩
 ·cases h2 : decide (s.w.kind = 1)
  ·rw [hno (fun h => absurd h.2 (of_decide_eq_false h2))]
   refine b23.go 60 rfl fun hsm => ?_
   simp only [smw] at hsm
   simp only [W, seval, c23, hn, hi, bxP, h1, hk1, h2]
   refine PP.call0 hfl hc hok fun hok2 => ?_
   refine ARun.go 20 ?_
   simp only [W, seval, c23]
   refine ARun.ret Tryz.func23 rfl (PF.ret0 (fun _ _ => rfl) ?_)
   exact ⟨rfl, 0, hok2, rfl⟩
  ·have h2' := of_decide_eq_true h2
   rw [hyes ⟨of_decide_eq_true h1, h2'⟩]
   refine b23.go 60 rfl fun hsm => ?_
   simp only [smw] at hsm
   simp only [W, seval, c23, hn, hi, bxP, h1, hk1, h2]
   refine PP.call0 (next_pp bs h0 hl s (fun _ => by omega)) hc hok fun hok2 => ?_
   refine ARun.go 20 ?_
   simp only [W, seval, c23]
   refine ARun.ret Tryz.func23 rfl (PF.ret0 (fun _ _ => rfl) ?_)
   exact ⟨rfl, 0, hok2, rfl⟩
theorem num_pp (bs : List UInt8) (h0 : True) (hl : bs.length ≤ 400000) (s : Ps) : PP bs 174 [] s (.d (.int .u64 (numP s).1)) (numP s).2 := by
 intro c B T i hc hok
 obtain ⟨N, hn⟩ : ∃ N, B.length = N := ⟨_, rfl⟩
 have hi : c < N := by omega
 have hk1 := dec_nat s.w.kind 2
 simp only [Int.cast_ofNat_Int] at hk1
 have hfl := fail_pp bs s 51 (by decide)
 have hno : ¬ (s.e = 0 ∧ s.w.kind = 2) → numP s = (0, failP s 51) := fun h => if_neg h
 have hyes : s.e = 0 ∧ s.w.kind = 2 → numP s = ((s.w.int : Int), nextP s) := fun h => if_pos h
 cases h1 : decide (s.e = 0)
 ·rw [hno (fun h => absurd h.1 (of_decide_eq_false h1))]
  refine b174.go 60 rfl fun hsm => ?_
  simp only [smw] at hsm
  simp only [W, seval, c174, hn, hi, bxP, h1]
  refine PP.call0 hfl hc hok fun hok2 => ?_
  refine ARun.go 20 ?_
  simp only [W, seval, c174]
  refine ARun.ret Tryz.func174 rfl (PF.ret0 (fun _ _ => rfl) ?_)
  exact ⟨rfl, 0, hok2, rfl⟩
 ·cases h2 : decide (s.w.kind = 2)
  ·rw [hno (fun h => absurd h.2 (of_decide_eq_false h2))]
   refine b174.go 60 rfl fun hsm => ?_
   simp only [smw] at hsm
   simp only [W, seval, c174, hn, hi, bxP, h1, hk1, h2]
   refine PP.call0 hfl hc hok fun hok2 => ?_
   refine ARun.go 20 ?_
   simp only [W, seval, c174]
   refine ARun.ret Tryz.func174 rfl (PF.ret0 (fun _ _ => rfl) ?_)
   exact ⟨rfl, 0, hok2, rfl⟩
  ·have h2' := of_decide_eq_true h2
   rw [hyes ⟨of_decide_eq_true h1, h2'⟩]
   refine b174.go 60 rfl fun hsm => ?_
   simp only [smw] at hsm
   simp only [W, seval, c174, hn, hi, bxP, h1, hk1, h2]
   refine PP.call0 (next_pp bs h0 hl s (fun _ => by omega)) hc hok fun hok2 => ?_
   refine ARun.go 20 ?_
   simp only [W, seval, c174]
   refine ARun.ret Tryz.func174 rfl (PF.ret0 (fun _ _ => rfl) ?_)
   exact ⟨rfl, 0, hok2, rfl⟩
theorem kindS_eq (t : List UInt8) : kindS t = if t = [98, 111, 111, 108] then 1 else if t = [98, 121, 116, 101] then 2 else if t = [105, 110, 116, 51, 50] then 3 else if t = [105, 110, 116] then 4 else if t = [117, 105, 110, 116, 51, 50] then 5 else if t = [117, 105, 110, 116, 54, 52] then 6 else 0 := by
 have hb : ∀ a : List UInt8, (a == t) = decide (t = a) := fun a => by rw [Bool.eq_iff_iff, beq_iff_eq, decide_eq_true_iff]; exact eq_comm
 simp only [kindS, kindT, List.find?_cons, List.find?_nil, hb]
 by_cases h1 : t = [98, 111, 111, 108]
 ·subst h1; rfl
 by_cases h2 : t = [98, 121, 116, 101]
 ·subst h2; rfl
 by_cases h3 : t = [105, 110, 116, 51, 50]
 ·subst h3; rfl
 by_cases h4 : t = [105, 110, 116]
 ·subst h4; rfl
 by_cases h5 : t = [117, 105, 110, 116, 51, 50]
 ·subst h5; rfl
 by_cases h6 : t = [117, 105, 110, 116, 54, 52]
 ·subst h6; rfl
 simp only [decide_eq_false h1, decide_eq_false h2, decide_eq_false h3, decide_eq_false h4, decide_eq_false h5, decide_eq_false h6, if_neg h1, if_neg h2, if_neg h3, if_neg h4, if_neg h5, if_neg h6]
 rfl
theorem basic_ab (t : List UInt8) (S : Mem) : AFn Tryz.prog TabI 97 [.d (.str t)] S (Same (.d (.int .i64 (kindS t))) S) := by
 obtain ⟨B, T⟩ := S
 refine b97.go 60 rfl fun _ => ?_
 simp only [W, seval, c97]
 rw [kindS_eq]
 repeat' ((first | refine guardB_of (fun h => ?_) (fun h => ?_) | refine condS_of (fun h => ?_) (fun h => ?_)) <;> simp only [W, seval, c97, h])
 all_goals
  refine ARun.ret Tryz.func97 rfl (Left.none ?_)
  (try clear ih)
  (try simp only [dnw] at *)
  simp only [fnw, seval, Same] <;> simp [*]
  skip
def c60 := by
 have c := KK_of Tryz.f60 (by conv => lhs; cbv)
 dsimp only [KK, KxP, doO, opO, List.map_cons, List.map_nil, List.toList_toArray] at c
 exact c
theorem b60 : FnIs Tryz.prog 60 Tryz.f60 45 := ⟨Tryz.func60, by kernel_rfl⟩
theorem mapD_sl (rows : List (List D)) (tk : Tok) (l : List V) : List.mapM toD (.sl rows tk :: l) = (List.mapM toD l).map (.sl rows :: ·) := by
 rw [List.mapM_cons]
 show (some (D.sl rows)).bind _ = _
 rw [Option.bind_some]
 cases List.mapM toD l <;> rfl
set_option maxHeartbeats 2000000 in
theorem typ_pp (bs : List UInt8) (h0 : True) (hl : bs.length ≤ 400000) (M : Nat) (s : Ps) (hM : mu s < M) : PP bs 60 [] s (tyV (typP M s).1) (typP M s).2 := by
 intro c B T i hc hok
 obtain ⟨N, hn⟩ : ∃ N, B.length = N := ⟨_, rfl⟩
 have hi : c < N := by omega
 have hi1 : c < N + 1 := by omega
 have hmu := hok.mu_le
 obtain ⟨⟨n, s2⟩, hup⟩ : ∃ r, upP M s = r := ⟨_, rfl⟩
 unfold typP
 rw [hup]
 dsimp only
 refine b60.go 30 rfl fun hsm => ?_
 simp only [smw] at hsm
 simp only [W, seval, c60, hn, hi]
 refine ARun.loopW (fun a : Nat × Ps => (envS 45 [(0, .ptr c 0), (2, .ptr N 0), (3, .d (.int .i64 a.1))], ⟨B.set c (bxP bs a.2) ++ [[.d (.int .i64 0), .d (.str []), .sl [] .full]], T⟩)) (fun a => OkP bs a.2 ∧ a.1 + mu a.2 ≤ mu s ∧ ∃ m, mu a.2 < m ∧ (a.1 + (upP m a.2).1, (upP m a.2).2) = (n, s2)) (fun a => mu a.2) (0, s) ⟨hok, by dsimp only; omega, M, hM, by dsimp only; rw [hup, Nat.zero_add]⟩ ?_ rfl ?_
 ·skip
  refine Agree.env _ ?_
  simp only [agw, seval, hn]
 rintro ⟨k, s1⟩ ⟨hok1, hle, m, hm, hr⟩ ih
 dsimp only at hok1 hle hm hr ih ⊢
 cases m with
 | zero => omega
 | succ m =>
 rw [upP] at hr
 refine ARun.go 20 ?_
 simp only [W, seval, c60, hn, hi]
 obtain ⟨⟨b, s3⟩, hg_s3⟩ : ∃ r, gotP s1 [91] = r := ⟨_, rfl⟩
 have hp_s3 := got_pp bs h0 hl s1 [91]
 rw [hg_s3] at hp_s3
 dsimp only at hp_s3
 first
  | refine PP.call0 hp_s3 hc hok1 fun hok3 => ?_
  | refine PP.call hp_s3 hc hok1 fun hok3 => ?_
 rw [hg_s3] at hr
 cases b
 case' true =>
  dsimp only at hr
  have hlt := got_lt hg_s3
  have hdw := (dn_want s3 [93]).le
  obtain ⟨⟨n4, s4⟩, hu⟩ : ∃ r, upP m (wantP s3 [93]) = r := ⟨_, rfl⟩
  rw [hu] at hr
  dsimp only at hr
  have hw := wrap_in ((k : Int) + 1) (by omega)
  refine ARun.go 20 ?_
  simp only [W, seval, c60, hn, hi]
  first
   | refine PP.call0 (want_pp bs h0 hl s3 [93]) hc hok3 fun hok4 => ?_
   | refine PP.call (want_pp bs h0 hl s3 [93]) hc hok3 fun hok4 => ?_
  refine ARun.go 20 ?_
  simp only [W, seval, c60, hn, hi, hw]
  refine ih (k + 1, wantP s3 [93]) ⟨hok4, by dsimp only; omega, m, by dsimp only; omega, ?_⟩ (by dsimp only; omega) _ _ ?_ rfl
  ·dsimp only
   rw [hu, ← hr]
   simp only [Prod.mk.injEq, and_true]
   omega
  ·skip
   refine Agree.env _ ?_
   simp only [agw, seval, hn]
 case' false =>
  dsimp only at hr
  obtain ⟨rfl, rfl⟩ := Prod.mk.inj hr
  rw [Nat.add_zero] at hup ⊢
  clear ih hr hup
  refine ARun.go 60 ?_
  simp only [W, seval, c60, hn, hi, bxP]
  refine callS_fn (basic_ab s3.w.text _) ?_
  rintro _ _ ⟨rfl, rfl⟩
  refine ARun.go 2 ?_
  simp only [W, seval, c60, hn, hi]
  have hbk : (baseP s3).1.elem = [] := by
   unfold baseP
   split <;> rfl
  refine ARun.join (fun _ : Unit => (envS 45 [(0, .ptr c 0), (2, .ptr N 0), (3, .d (.int .i64 k)), (4, .ptr (N + 1) 0)], ⟨B.set c (bxP bs (baseP s3).2) ++ [[.d (.int .i64 0), .d (.str []), .sl [] .full], [.d (.int .i64 (baseP s3).1.kind), .d (.str (baseP s3).1.name), .sl [] .full]], T⟩)) (fun _ => OkP bs (baseP s3).2) ?_ ?_
  rotate_left
  ·intro K' hK
   refine ARun.goJ 200 ?_
   have hyes : 0 < kindS s3.w.text ∧ isP s3 s3.w.text = true → baseP s3 = (.mk (kindS s3.w.text) [] [], nextP s3) := fun h => if_pos h
   have hno : ¬ (0 < kindS s3.w.text ∧ isP s3 s3.w.text = true) → baseP s3 = (.mk 7 (nameP s3).1 [], (nameP s3).2) := fun h => if_neg h
   cases h1 : decide (0 < kindS s3.w.text)
   ·have hb := hno fun h => absurd h.1 (of_decide_eq_false h1)
    simp only [W, seval, c60, hn, hi, h1, bxP]
    obtain ⟨⟨g, s4⟩, hg4⟩ : ∃ r, nameP s3 = r := ⟨_, rfl⟩
    have hp4 := name_pp bs h0 hl s3
    rw [hg4] at hp4 hb
    refine PP.call hp4 hc hok3 fun hok4 => ?_
    rw [hb] at hK ⊢
    refine ARun.goK 30 ?_
    simp only [W, seval, c60, hn, hi]
    refine hK () hok4 _ _ ?_ rfl
    refine Agree.env _ ?_
    simp only [agw, seval, hn]
   ·simp only [W, seval, c60, hn, hi, h1, bxP]
    refine PP.call (is_pp bs s3 s3.w.text) hc hok3 fun _ => ?_
    cases h2 : isP s3 s3.w.text
    ·have hb := hno fun h => by rw [h2] at h; exact absurd h.2 (by decide)
     refine ARun.goK 30 ?_
     simp only [W, seval, c60, hn, hi]
     obtain ⟨⟨g, s4⟩, hg4⟩ : ∃ r, nameP s3 = r := ⟨_, rfl⟩
     have hp4 := name_pp bs h0 hl s3
     rw [hg4] at hp4 hb
     refine PP.call hp4 hc hok3 fun hok4 => ?_
     rw [hb] at hK ⊢
     refine ARun.goK 30 ?_
     simp only [W, seval, c60, hn, hi]
     refine hK () hok4 _ _ ?_ rfl
     refine Agree.env _ ?_
     simp only [agw, seval, hn]
    ·have hb := hyes ⟨of_decide_eq_true h1, h2⟩
     have hlv := is_live h2
     refine ARun.goK 30 ?_
     simp only [W, seval, c60, hn, hi]
     refine PP.call (next_pp bs h0 hl s3 fun _ => by omega) hc hok3 fun hok4 => ?_
     rw [hb] at hK ⊢
     refine ARun.goK 30 ?_
     simp only [W, seval, c60, hn, hi]
     refine hK () hok4 _ _ ?_ rfl
     refine Agree.env _ ?_
     simp only [agw, seval, hn]
  ·rintro ⟨⟩ hok4
   generalize baseP s3 = r at hok4 hbk ⊢
   obtain ⟨t0, s4⟩ := r
   dsimp only at hok4 hbk ⊢
   refine ARun.go 20 ?_
   simp only [W, seval, c60, hn, hi]
   refine ARun.loopW (fun a : Nat × TyT => (envS 45 [(0, .ptr c 0), (2, .ptr N 0), (4, .ptr (N + 1) 0), (37, .d (.int .i64 k)), (38, .d (.int .i64 a.1))], ⟨B.set c (bxP bs s4) ++ [[.d (.int .i64 0), .d (.str []), .sl [] .full], [.d (.int .i64 a.2.kind), .d (.str a.2.name), .sl (a.2.elem.map tyD) .full]], T⟩)) (fun a => a.1 ≤ k ∧ wrapT (k - a.1) a.2 = wrapT k t0) (fun a => k - a.1) (0, t0) ⟨Nat.zero_le _, rfl⟩ ?_ (by dsimp only; rw [hbk]; rfl) ?_
   ·skip
    refine Agree.env _ ?_
    simp only [agw, seval, hn]
   rintro ⟨j, t⟩ ⟨h1, h2⟩ ih
   dsimp only at h1 h2 ih ⊢
   by_cases hlt : j < k
   ·have hd : decide ((j : Int) < (k : Int)) = true := decide_eq_true (by omega)
    have hw := wrap_in ((j : Int) + 1) (by omega)
    have hks : k - j = (k - (j + 1)) + 1 := by omega
    rw [hks, wrapT] at h2
    refine ARun.go 60 ?_
    simp only [W, seval, c60, hn, hi, hd, hw, mapD_nil, mapD_cons, mapD_sl, Nat.reduceMul, ← tyD_eq]
    refine ih (j + 1, .mk 8 [] [t]) ⟨hlt, h2⟩ (by dsimp only; omega) _ _ ?_ rfl
    refine Agree.env _ ?_
    simp only [agw, seval, hn]
   ·have hd : decide ((j : Int) < (k : Int)) = false := decide_eq_false (by omega)
    have hks : k - j = 0 := by omega
    rw [hks, wrapT] at h2
    subst h2
    refine ARun.go 60 ?_
    simp only [W, seval, c60, hn, hi, hd]
    refine retc (v := ?_) Tryz.func60 (by rfl) ?_ ?_
    rotate_left
    ·simp only [W, seval, c60, hn, hi]
     exact rfl
    refine PF.retJ (fun _ _ => rfl) ?_
    refine ⟨?_, 0, hok4, rfl⟩
    rfl
end Go.Proofs.YtfaoamebphckbaaGreatDoor
