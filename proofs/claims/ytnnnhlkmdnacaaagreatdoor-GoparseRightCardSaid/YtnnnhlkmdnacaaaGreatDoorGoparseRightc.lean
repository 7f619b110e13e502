/- GoparseRight: what is parsed may be; an expression in parentheses, or returned by a function, is the same one; for any bytes and number, no condition. Part 3 of 5 of the proof. -/
import Derived.Test.YtnnnhlkmdnacaaaGreatDoorGoparseRightb
namespace Go.Proofs.YtnnnhlkmdnacaaaGreatDoor
open Go.RowKit Go.Av Go.Ab
set_option linter.unusedSimpArgs false
set_option maxRecDepth 100000
def walkF {α σ : Type} (f : α → σ → Bool × σ) : List α → Int → σ → Int × σ
 | [], _, s => (-1, s)
 | x :: l, i, s => if (f x s).1 = true then (i, (f x s).2) else walkF f l (i + 1) (f x s).2
def anyF {α σ : Type} (f : α → σ → Bool × σ) : List α → σ → Bool × σ
 | [], s => (false, s)
 | x :: l, s => if (f x s).1 = true then (true, (f x s).2) else anyF f l (f x s).2
theorem walkF_any {α σ : Type} (f : α → σ → Bool × σ) : ∀ (l : List α) (i : Int) (s : σ), 0 ≤ i → decide (0 ≤ (walkF f l i s).1) = (anyF f l s).1 ∧ (walkF f l i s).2 = (anyF f l s).2
 | [], i, s, _ => ⟨by simp [walkF, anyF], rfl⟩
 | x :: l, i, s, hi => by
  unfold walkF anyF
  cases h : (f x s).1
  ·simpa using walkF_any f l (i + 1) (f x s).2 (by omega)
  ·simpa using hi
def Good (P : Program) (I : Inv) {α σ : Type} (g : FuncId) (first caps : List V) (argV : α → V) (mem : σ → Mem) (f : α → σ → Bool × σ) : List α → σ → Prop
 | [], _ => True
 | x :: l, s => AFn P I g (first ++ [argV x] ++ caps) (mem s) (Same (.d (.bool (f x s).1)) (mem (f x s).2)) ∧ ((f x s).1 = false → Good P I g first caps argV mem f l (f x s).2)
set_option maxHeartbeats 1000000 in
theorem indexFunc_Type {σ : Type} (g : FuncId) (first caps : List V) (mem : σ → Mem) (f : TyT → σ → Bool × σ) (hm : ∀ s s', (mem s).boxes.length = (mem s').boxes.length ∧ (mem s).toks.length = (mem s').toks.length) (l : List TyT) (hl : l.length ≤ 9223372036854775807) (s0 : σ) (hg : Good Tryz.prog TabI g first caps tyV mem f l s0) :
 AFn Tryz.prog TabI 93 [.d (.sl (l.map tyD)), .func g first caps] (mem s0) (Same (.d (.int .i64 (walkF f l 0 s0).1)) (mem (walkF f l 0 s0).2)) := by
 refine AFn.body Tryz.func93 rfl (by kernel_rfl) ?_
 refine ARun.go 100 ?_
 simp only [Tryz.f93, WO, seval]
 refine ARun.loopW (fun p : Nat × σ => (envOf 19 [(0, .d (.sl (l.map tyD))), (1, .func g first caps), (6, .d (.sl (l.map tyD))), (7, .d (.int .i64 l.length)), (8, .d (.int .i64 p.1))], mem p.2)) (fun p => p.1 ≤ l.length ∧ walkF f l 0 s0 = walkF f (l.drop p.1) p.1 p.2 ∧ Good Tryz.prog TabI g first caps tyV mem f (l.drop p.1) p.2) (fun p => l.length - p.1) (0, s0) ⟨by omega, rfl, hg⟩ ?_ rfl ?_
 ·simp only [envOf, List.replicate_succ, List.replicate_zero, List.foldl_cons, List.foldl_nil, List.set_cons_zero, List.set_cons_succ, EnvW, eq_self, or_true, true_or, and_self, Int.natCast_add, Int.natCast_one, Int.natCast_zero]
 rintro ⟨i, s⟩ ⟨h1, h2, h3⟩ ih
 dsimp only at h1 h2 h3 ih ⊢
 by_cases hlt : i < l.length
 ·have hw := wrap_in ((i : Int) + 1) (by omega)
  have hge := List.getElem?_eq_getElem hlt
  rw [drop_get hlt] at h2 h3
  obtain ⟨h4, h5⟩ := h3
  have hlt' : decide ((i : Int) < (l.length : Int)) = true := decide_eq_true (by omega)
  refine ARun.go 100 ?_
  simp only [WO, seval, List.getElem?_map, hge, hlt', hw, tyD_eq]
  refine callS_of h4 ?_
  rintro _ _ ⟨rfl, rfl⟩
  refine ARun.go 100 ?_
  simp only [WO, seval, hw]
  refine condS_of (fun h => ?_) (fun h => ?_)
  ·simp only [WO, seval, h]
   refine ARun.fits fun hf => ?_
   refine ARun.ret Tryz.func93 rfl (Left.fits hf (hm _ _).1 (hm _ _).2 ?_)
   have e : walkF f (l[i] :: l.drop (i + 1)) (i : Int) s = ((i : Int), (f l[i] s).2) := by simp [walkF, h]
   rw [h2, e]
   exact ⟨rfl, rfl⟩
  ·simp only [WO, seval, h, hw]
   have e : walkF f (l[i] :: l.drop (i + 1)) (i : Int) s = walkF f (l.drop (i + 1)) ((i + 1 : Nat) : Int) (f l[i] s).2 := by simp [walkF, h]
   refine ih (i + 1, (f l[i] s).2) ⟨hlt, h2.trans e, h5 h⟩ (by simp only; omega) _ _ ?_ rfl
   simp only [envOf, List.replicate_succ, List.replicate_zero, List.foldl_cons, List.foldl_nil, List.set_cons_zero, List.set_cons_succ, EnvW, eq_self, or_true, true_or, and_self, Int.natCast_add, Int.natCast_one, Int.natCast_zero]
 ·have hlt' : decide ((i : Int) < (l.length : Int)) = false := decide_eq_false (by omega)
  refine ARun.go 100 ?_
  simp only [WO, seval, hlt']
  refine ARun.fits fun hf => ?_
  refine ARun.ret Tryz.func93 rfl (Left.fits hf (hm _ _).1 (hm _ _).2 ?_)
  rw [h2, List.drop_eq_nil_of_le (by omega)]
  exact ⟨rfl, rfl⟩
theorem containsFunc_Type {σ : Type} (g : FuncId) (first caps : List V) (mem : σ → Mem) (f : TyT → σ → Bool × σ) (hm : ∀ s s', (mem s).boxes.length = (mem s').boxes.length ∧ (mem s).toks.length = (mem s').toks.length) (l : List TyT) (hl : l.length ≤ 9223372036854775807) (s0 : σ) (hg : Good Tryz.prog TabI g first caps tyV mem f l s0) :
 AFn Tryz.prog TabI 65 [.d (.sl (l.map tyD)), .func g first caps] (mem s0) (Same (.d (.bool (anyF f l s0).1)) (mem (anyF f l s0).2)) := by
 obtain ⟨e1, e2⟩ := walkF_any f l 0 s0 (Int.le_refl 0)
 refine AFn.body Tryz.func65 rfl (by kernel_rfl) ?_
 refine ARun.go 100 ?_
 simp only [Tryz.f65, WO, seval]
 refine callS_fn (indexFunc_Type g first caps mem f hm l hl s0 hg) ?_
 rintro _ _ ⟨rfl, rfl⟩
 refine ARun.go 100 ?_
 simp only [WO, seval, e1]
 refine ARun.fits fun hf => ?_
 refine ARun.ret Tryz.func65 rfl (Left.fits hf (hm _ _).1 (hm _ _).2 ?_)
 rw [e2]
 exact ⟨rfl, rfl⟩
set_option maxHeartbeats 1000000 in
theorem indexFunc_Stmt {σ : Type} (g : FuncId) (first caps : List V) (mem : σ → Mem) (f : StT → σ → Bool × σ) (hm : ∀ s s', (mem s).boxes.length = (mem s').boxes.length ∧ (mem s).toks.length = (mem s').toks.length) (l : List StT) (hl : l.length ≤ 9223372036854775807) (s0 : σ) (hg : Good Tryz.prog TabI g first caps stV mem f l s0) :
 AFn Tryz.prog TabI 119 [.d (.sl (l.map stD)), .func g first caps] (mem s0) (Same (.d (.int .i64 (walkF f l 0 s0).1)) (mem (walkF f l 0 s0).2)) := by
 refine AFn.body Tryz.func119 rfl (by kernel_rfl) ?_
 refine ARun.go 100 ?_
 simp only [Tryz.f119, WO, seval]
 refine ARun.loopW (fun p : Nat × σ => (envOf 19 [(0, .d (.sl (l.map stD))), (1, .func g first caps), (6, .d (.sl (l.map stD))), (7, .d (.int .i64 l.length)), (8, .d (.int .i64 p.1))], mem p.2)) (fun p => p.1 ≤ l.length ∧ walkF f l 0 s0 = walkF f (l.drop p.1) p.1 p.2 ∧ Good Tryz.prog TabI g first caps stV mem f (l.drop p.1) p.2) (fun p => l.length - p.1) (0, s0) ⟨by omega, rfl, hg⟩ ?_ rfl ?_
 ·simp only [envOf, List.replicate_succ, List.replicate_zero, List.foldl_cons, List.foldl_nil, List.set_cons_zero, List.set_cons_succ, EnvW, eq_self, or_true, true_or, and_self, Int.natCast_add, Int.natCast_one, Int.natCast_zero]
 rintro ⟨i, s⟩ ⟨h1, h2, h3⟩ ih
 dsimp only at h1 h2 h3 ih ⊢
 by_cases hlt : i < l.length
 ·have hw := wrap_in ((i : Int) + 1) (by omega)
  have hge := List.getElem?_eq_getElem hlt
  rw [drop_get hlt] at h2 h3
  obtain ⟨h4, h5⟩ := h3
  have hlt' : decide ((i : Int) < (l.length : Int)) = true := decide_eq_true (by omega)
  refine ARun.go 100 ?_
  simp only [WO, seval, List.getElem?_map, hge, hlt', hw, stD_eq]
  refine callS_of h4 ?_
  rintro _ _ ⟨rfl, rfl⟩
  refine ARun.go 100 ?_
  simp only [WO, seval, hw]
  refine condS_of (fun h => ?_) (fun h => ?_)
  ·simp only [WO, seval, h]
   refine ARun.fits fun hf => ?_
   refine ARun.ret Tryz.func119 rfl (Left.fits hf (hm _ _).1 (hm _ _).2 ?_)
   have e : walkF f (l[i] :: l.drop (i + 1)) (i : Int) s = ((i : Int), (f l[i] s).2) := by simp [walkF, h]
   rw [h2, e]
   exact ⟨rfl, rfl⟩
  ·simp only [WO, seval, h, hw]
   have e : walkF f (l[i] :: l.drop (i + 1)) (i : Int) s = walkF f (l.drop (i + 1)) ((i + 1 : Nat) : Int) (f l[i] s).2 := by simp [walkF, h]
   refine ih (i + 1, (f l[i] s).2) ⟨hlt, h2.trans e, h5 h⟩ (by simp only; omega) _ _ ?_ rfl
   simp only [envOf, List.replicate_succ, List.replicate_zero, List.foldl_cons, List.foldl_nil, List.set_cons_zero, List.set_cons_succ, EnvW, eq_self, or_true, true_or, and_self, Int.natCast_add, Int.natCast_one, Int.natCast_zero]
 ·have hlt' : decide ((i : Int) < (l.length : Int)) = false := decide_eq_false (by omega)
  refine ARun.go 100 ?_
  simp only [WO, seval, hlt']
  refine ARun.fits fun hf => ?_
  refine ARun.ret Tryz.func119 rfl (Left.fits hf (hm _ _).1 (hm _ _).2 ?_)
  rw [h2, List.drop_eq_nil_of_le (by omega)]
  exact ⟨rfl, rfl⟩
theorem containsFunc_Stmt {σ : Type} (g : FuncId) (first caps : List V) (mem : σ → Mem) (f : StT → σ → Bool × σ) (hm : ∀ s s', (mem s).boxes.length = (mem s').boxes.length ∧ (mem s).toks.length = (mem s').toks.length) (l : List StT) (hl : l.length ≤ 9223372036854775807) (s0 : σ) (hg : Good Tryz.prog TabI g first caps stV mem f l s0) :
 AFn Tryz.prog TabI 94 [.d (.sl (l.map stD)), .func g first caps] (mem s0) (Same (.d (.bool (anyF f l s0).1)) (mem (anyF f l s0).2)) := by
 obtain ⟨e1, e2⟩ := walkF_any f l 0 s0 (Int.le_refl 0)
 refine AFn.body Tryz.func94 rfl (by kernel_rfl) ?_
 refine ARun.go 100 ?_
 simp only [Tryz.f94, WO, seval]
 refine callS_fn (indexFunc_Stmt g first caps mem f hm l hl s0 hg) ?_
 rintro _ _ ⟨rfl, rfl⟩
 refine ARun.go 100 ?_
 simp only [WO, seval, e1]
 refine ARun.fits fun hf => ?_
 refine ARun.ret Tryz.func94 rfl (Left.fits hf (hm _ _).1 (hm _ _).2 ?_)
 rw [e2]
 exact ⟨rfl, rfl⟩
set_option maxHeartbeats 1000000 in
theorem indexFunc_Case {σ : Type} (g : FuncId) (first caps : List V) (mem : σ → Mem) (f : CaT → σ → Bool × σ) (hm : ∀ s s', (mem s).boxes.length = (mem s').boxes.length ∧ (mem s).toks.length = (mem s').toks.length) (l : List CaT) (hl : l.length ≤ 9223372036854775807) (s0 : σ) (hg : Good Tryz.prog TabI g first caps caV mem f l s0) :
 AFn Tryz.prog TabI 143 [.d (.sl (l.map caD)), .func g first caps] (mem s0) (Same (.d (.int .i64 (walkF f l 0 s0).1)) (mem (walkF f l 0 s0).2)) := by
 refine AFn.body Tryz.func143 rfl (by kernel_rfl) ?_
 refine ARun.go 100 ?_
 simp only [Tryz.f143, WO, seval]
 refine ARun.loopW (fun p : Nat × σ => (envOf 19 [(0, .d (.sl (l.map caD))), (1, .func g first caps), (6, .d (.sl (l.map caD))), (7, .d (.int .i64 l.length)), (8, .d (.int .i64 p.1))], mem p.2)) (fun p => p.1 ≤ l.length ∧ walkF f l 0 s0 = walkF f (l.drop p.1) p.1 p.2 ∧ Good Tryz.prog TabI g first caps caV mem f (l.drop p.1) p.2) (fun p => l.length - p.1) (0, s0) ⟨by omega, rfl, hg⟩ ?_ rfl ?_
 ·simp only [envOf, List.replicate_succ, List.replicate_zero, List.foldl_cons, List.foldl_nil, List.set_cons_zero, List.set_cons_succ, EnvW, eq_self, or_true, true_or, and_self, Int.natCast_add, Int.natCast_one, Int.natCast_zero]
 rintro ⟨i, s⟩ ⟨h1, h2, h3⟩ ih
 dsimp only at h1 h2 h3 ih ⊢
 by_cases hlt : i < l.length
 ·have hw := wrap_in ((i : Int) + 1) (by omega)
  have hge := List.getElem?_eq_getElem hlt
  rw [drop_get hlt] at h2 h3
  obtain ⟨h4, h5⟩ := h3
  have hlt' : decide ((i : Int) < (l.length : Int)) = true := decide_eq_true (by omega)
  refine ARun.go 100 ?_
  simp only [WO, seval, List.getElem?_map, hge, hlt', hw, caD_eq]
  refine callS_of h4 ?_
  rintro _ _ ⟨rfl, rfl⟩
  refine ARun.go 100 ?_
  simp only [WO, seval, hw]
  refine condS_of (fun h => ?_) (fun h => ?_)
  ·simp only [WO, seval, h]
   refine ARun.fits fun hf => ?_
   refine ARun.ret Tryz.func143 rfl (Left.fits hf (hm _ _).1 (hm _ _).2 ?_)
   have e : walkF f (l[i] :: l.drop (i + 1)) (i : Int) s = ((i : Int), (f l[i] s).2) := by simp [walkF, h]
   rw [h2, e]
   exact ⟨rfl, rfl⟩
  ·simp only [WO, seval, h, hw]
   have e : walkF f (l[i] :: l.drop (i + 1)) (i : Int) s = walkF f (l.drop (i + 1)) ((i + 1 : Nat) : Int) (f l[i] s).2 := by simp [walkF, h]
   refine ih (i + 1, (f l[i] s).2) ⟨hlt, h2.trans e, h5 h⟩ (by simp only; omega) _ _ ?_ rfl
   simp only [envOf, List.replicate_succ, List.replicate_zero, List.foldl_cons, List.foldl_nil, List.set_cons_zero, List.set_cons_succ, EnvW, eq_self, or_true, true_or, and_self, Int.natCast_add, Int.natCast_one, Int.natCast_zero]
 ·have hlt' : decide ((i : Int) < (l.length : Int)) = false := decide_eq_false (by omega)
  refine ARun.go 100 ?_
  simp only [WO, seval, hlt']
  refine ARun.fits fun hf => ?_
  refine ARun.ret Tryz.func143 rfl (Left.fits hf (hm _ _).1 (hm _ _).2 ?_)
  rw [h2, List.drop_eq_nil_of_le (by omega)]
  exact ⟨rfl, rfl⟩
theorem containsFunc_Case {σ : Type} (g : FuncId) (first caps : List V) (mem : σ → Mem) (f : CaT → σ → Bool × σ) (hm : ∀ s s', (mem s).boxes.length = (mem s').boxes.length ∧ (mem s).toks.length = (mem s').toks.length) (l : List CaT) (hl : l.length ≤ 9223372036854775807) (s0 : σ) (hg : Good Tryz.prog TabI g first caps caV mem f l s0) :
 AFn Tryz.prog TabI 121 [.d (.sl (l.map caD)), .func g first caps] (mem s0) (Same (.d (.bool (anyF f l s0).1)) (mem (anyF f l s0).2)) := by
 obtain ⟨e1, e2⟩ := walkF_any f l 0 s0 (Int.le_refl 0)
 refine AFn.body Tryz.func121 rfl (by kernel_rfl) ?_
 refine ARun.go 100 ?_
 simp only [Tryz.f121, WO, seval]
 refine callS_fn (indexFunc_Case g first caps mem f hm l hl s0 hg) ?_
 rintro _ _ ⟨rfl, rfl⟩
 refine ARun.go 100 ?_
 simp only [WO, seval, e1]
 refine ARun.fits fun hf => ?_
 refine ARun.ret Tryz.func121 rfl (Left.fits hf (hm _ _).1 (hm _ _).2 ?_)
 rw [e2]
 exact ⟨rfl, rfl⟩
set_option maxHeartbeats 1000000 in
theorem indexFunc_Expr {σ : Type} (g : FuncId) (first caps : List V) (mem : σ → Mem) (f : ExT → σ → Bool × σ) (hm : ∀ s s', (mem s).boxes.length = (mem s').boxes.length ∧ (mem s).toks.length = (mem s').toks.length) (l : List ExT) (hl : l.length ≤ 9223372036854775807) (s0 : σ) (hg : Good Tryz.prog TabI g first caps exV mem f l s0) :
 AFn Tryz.prog TabI 151 [.d (.sl (l.map exD)), .func g first caps] (mem s0) (Same (.d (.int .i64 (walkF f l 0 s0).1)) (mem (walkF f l 0 s0).2)) := by
 refine AFn.body Tryz.func151 rfl (by kernel_rfl) ?_
 refine ARun.go 100 ?_
 simp only [Tryz.f151, WO, seval]
 refine ARun.loopW (fun p : Nat × σ => (envOf 19 [(0, .d (.sl (l.map exD))), (1, .func g first caps), (6, .d (.sl (l.map exD))), (7, .d (.int .i64 l.length)), (8, .d (.int .i64 p.1))], mem p.2)) (fun p => p.1 ≤ l.length ∧ walkF f l 0 s0 = walkF f (l.drop p.1) p.1 p.2 ∧ Good Tryz.prog TabI g first caps exV mem f (l.drop p.1) p.2) (fun p => l.length - p.1) (0, s0) ⟨by omega, rfl, hg⟩ ?_ rfl ?_
 ·simp only [envOf, List.replicate_succ, List.replicate_zero, List.foldl_cons, List.foldl_nil, List.set_cons_zero, List.set_cons_succ, EnvW, eq_self, or_true, true_or, and_self, Int.natCast_add, Int.natCast_one, Int.natCast_zero]
 rintro ⟨i, s⟩ ⟨h1, h2, h3⟩ ih
 dsimp only at h1 h2 h3 ih ⊢
 by_cases hlt : i < l.length
 ·have hw := wrap_in ((i : Int) + 1) (by omega)
  have hge := List.getElem?_eq_getElem hlt
  rw [drop_get hlt] at h2 h3
  obtain ⟨h4, h5⟩ := h3
  have hlt' : decide ((i : Int) < (l.length : Int)) = true := decide_eq_true (by omega)
  refine ARun.go 100 ?_
  simp only [WO, seval, List.getElem?_map, hge, hlt', hw, exD_eq]
  refine callS_of h4 ?_
  rintro _ _ ⟨rfl, rfl⟩
  refine ARun.go 100 ?_
  simp only [WO, seval, hw]
  refine condS_of (fun h => ?_) (fun h => ?_)
  ·simp only [WO, seval, h]
   refine ARun.fits fun hf => ?_
   refine ARun.ret Tryz.func151 rfl (Left.fits hf (hm _ _).1 (hm _ _).2 ?_)
   have e : walkF f (l[i] :: l.drop (i + 1)) (i : Int) s = ((i : Int), (f l[i] s).2) := by simp [walkF, h]
   rw [h2, e]
   exact ⟨rfl, rfl⟩
  ·simp only [WO, seval, h, hw]
   have e : walkF f (l[i] :: l.drop (i + 1)) (i : Int) s = walkF f (l.drop (i + 1)) ((i + 1 : Nat) : Int) (f l[i] s).2 := by simp [walkF, h]
   refine ih (i + 1, (f l[i] s).2) ⟨hlt, h2.trans e, h5 h⟩ (by simp only; omega) _ _ ?_ rfl
   simp only [envOf, List.replicate_succ, List.replicate_zero, List.foldl_cons, List.foldl_nil, List.set_cons_zero, List.set_cons_succ, EnvW, eq_self, or_true, true_or, and_self, Int.natCast_add, Int.natCast_one, Int.natCast_zero]
 ·have hlt' : decide ((i : Int) < (l.length : Int)) = false := decide_eq_false (by omega)
  refine ARun.go 100 ?_
  simp only [WO, seval, hlt']
  refine ARun.fits fun hf => ?_
  refine ARun.ret Tryz.func151 rfl (Left.fits hf (hm _ _).1 (hm _ _).2 ?_)
  rw [h2, List.drop_eq_nil_of_le (by omega)]
  exact ⟨rfl, rfl⟩
theorem containsFunc_Expr {σ : Type} (g : FuncId) (first caps : List V) (mem : σ → Mem) (f : ExT → σ → Bool × σ) (hm : ∀ s s', (mem s).boxes.length = (mem s').boxes.length ∧ (mem s).toks.length = (mem s').toks.length) (l : List ExT) (hl : l.length ≤ 9223372036854775807) (s0 : σ) (hg : Good Tryz.prog TabI g first caps exV mem f l s0) :
 AFn Tryz.prog TabI 139 [.d (.sl (l.map exD)), .func g first caps] (mem s0) (Same (.d (.bool (anyF f l s0).1)) (mem (anyF f l s0).2)) := by
 obtain ⟨e1, e2⟩ := walkF_any f l 0 s0 (Int.le_refl 0)
 refine AFn.body Tryz.func139 rfl (by kernel_rfl) ?_
 refine ARun.go 100 ?_
 simp only [Tryz.f139, WO, seval]
 refine callS_fn (indexFunc_Expr g first caps mem f hm l hl s0 hg) ?_
 rintro _ _ ⟨rfl, rfl⟩
 refine ARun.go 100 ?_
 simp only [WO, seval, e1]
 refine ARun.fits fun hf => ?_
 refine ARun.ret Tryz.func139 rfl (Left.fits hf (hm _ _).1 (hm _ _).2 ?_)
 rw [e2]
 exact ⟨rfl, rfl⟩
set_option maxHeartbeats 1000000 in
theorem many_ab (k : Int) (B : List (List V)) (T : List (Nat × Nat)) : AFn Tryz.prog TabI 77 [.d (.int .i64 k)] ⟨B, T⟩ (Same (.d (.int .i64 (manyS k))) ⟨B, T⟩) := by
 refine AFn.body Tryz.func77 rfl (by kernel_rfl) ?_
 refine ARun.go 300 ?_
 simp only [Tryz.f77, WO, seval]
 repeat' ((first | refine guardB_of (fun h => ?_) (fun h => ?_) | refine condS_of (fun h => ?_) (fun h => ?_)) <;> simp only [WO, seval, h])
 all_goals
  refine ARun.ret Tryz.func77 rfl (Left.none ?_)
  first
   | (obtain rfl := of_decide_eq_true h
      exact ⟨rfl, rfl⟩)
   | (simp only [decide_eq_false_iff_not] at *
      refine ⟨?_, rfl⟩
      have : manyS k = -2 := by simp [manyS, *]
      rw [this]
      rfl)
theorem rank_no (s : List UInt8) (h : ∀ x ∈ rankT, ¬ s = x.1) : rankS s = 0 := by
 unfold rankS
 rw [List.find?_eq_none.2 fun x hx => by simpa using fun e => h x hx e.symm]
 rfl
set_option maxHeartbeats 2000000 in
theorem rank_ab (s : List UInt8) (B : List (List V)) (T : List (Nat × Nat)) : AFn Tryz.prog TabI 70 [.d (.str s)] ⟨B, T⟩ (Same (.d (.int .i64 (rankS s))) ⟨B, T⟩) := by
 refine AFn.body Tryz.func70 rfl (by kernel_rfl) ?_
 refine ARun.go 400 ?_
 simp only [Tryz.f70, WO, seval]
 repeat' ((first | refine guardB_of (fun h => ?_) (fun h => ?_) | refine condS_of (fun h => ?_) (fun h => ?_)) <;> simp only [WO, seval, h])
 all_goals
  refine ARun.ret Tryz.func70 rfl (Left.none ?_)
  first
   | (obtain rfl := of_decide_eq_true h
      exact ⟨rfl, rfl⟩)
   | (simp only [decide_eq_false_iff_not] at *
      refine ⟨?_, rfl⟩
      have : rankS s = 0 := rank_no s (by simp [rankT, *])
      rw [this]
      rfl)
theorem diffS_succ (n : Nat) (l : List (List UInt8)) (h : n < l.length) : diffS (n + 1) l = (diffS n l && identS l[n] && !(l.take n).contains l[n]) := by
 have : l.getD n [] = l[n] := by simp [List.getD, h]
 simp only [diffS, this, hasS]
set_option maxHeartbeats 1000000 in
theorem different_ab (l : List (List UInt8)) (hl : l.length ≤ 9223372036854775807) (B : List (List V)) (T : List (Nat × Nat)) : AFn Tryz.prog TabI 92 [.d (.sl (ssD l))] ⟨B, T⟩ (Same (.d (.bool (diffS l.length l))) ⟨B, T⟩) := by
 refine AFn.body Tryz.func92 rfl (by kernel_rfl) ?_
 refine ARun.go 100 ?_
 simp only [Tryz.f92, WO, seval]
 refine ARun.loopW (fun i : Nat => (envOf 23 [(0, .d (.sl (ssD l))), (5, .d (.sl (ssD l))), (6, .d (.int .i64 l.length)), (7, .d (.int .i64 i))], ⟨B, T⟩)) (fun i => i ≤ l.length ∧ diffS i l = true) (fun i => l.length - i) 0 ⟨by omega, rfl⟩ ?_ rfl ?_
 ·simp only [envOf, List.replicate_succ, List.replicate_zero, List.foldl_cons, List.foldl_nil, List.set_cons_zero, List.set_cons_succ, EnvW, eq_self, or_true, true_or, and_self, Int.natCast_add, Int.natCast_one, Int.natCast_zero]
 rintro i ⟨h1, h2⟩ ih
 by_cases hlt : i < l.length
 ·have hw := wrap_in ((i : Int) + 1) (by omega)
  have hg := List.getElem?_eq_getElem hlt
  have hs := diffS_succ i l hlt
  rw [h2, Bool.true_and] at hs
  have hle : (i : Int) ≤ (l.length : Int) := by omega
  have hlt' : decide ((i : Int) < (l.length : Int)) = true := decide_eq_true (by omega)
  refine ARun.go 100 ?_
  simp only [WO, seval, hg, hlt', hw]
  refine callS_fn (ident_ab _ _) ?_
  rintro _ _ ⟨rfl, rfl⟩
  refine ARun.go 100 ?_
  simp only [WO, seval, hw]
  cases hI : identS l[i]
  ·simp only [WO, seval, hI, Bool.not_false]
   refine ARun.ret Tryz.func92 rfl (Left.none ?_)
   have : diffS l.length l = false := diffS_no l (i + 1) (by rw [hs, hI]; rfl) _ (by omega)
   rw [this]
   exact ⟨rfl, rfl⟩
  ·simp only [WO, seval, hI, Bool.not_true, hle]
   refine callS_fn (contains_str_ab _ _ (by simp; omega) _) ?_
   rintro _ _ ⟨rfl, rfl⟩
   refine ARun.go 100 ?_
   simp only [WO, seval, hw]
   refine condS_of (fun h => ?_) (fun h => ?_)
   ·simp only [WO, seval, h]
    refine ARun.ret Tryz.func92 rfl (Left.none ?_)
    have : diffS l.length l = false := diffS_no l (i + 1) (by rw [hs, hI, h]; rfl) _ (by omega)
    rw [this]
    exact ⟨rfl, rfl⟩
   ·simp only [WO, seval, h, hw]
    refine ih (i + 1) ⟨hlt, by rw [hs, hI, h]; rfl⟩ (by omega) _ _ ?_ rfl
    simp only [envOf, List.replicate_succ, List.replicate_zero, List.foldl_cons, List.foldl_nil, List.set_cons_zero, List.set_cons_succ, EnvW, eq_self, or_true, true_or, and_self, Int.natCast_add, Int.natCast_one, Int.natCast_zero]
 ·have hlt' : decide ((i : Int) < (l.length : Int)) = false := decide_eq_false (by omega)
  refine ARun.go 100 ?_
  simp only [WO, seval, hlt']
  refine ARun.ret Tryz.func92 rfl (Left.none ?_)
  obtain rfl : i = l.length := by omega
  rw [h2]
  exact ⟨rfl, rfl⟩
theorem good_of {P : Program} {I : Inv} {α : Type} {g : FuncId} {first caps : List V} {argV : α → V} {S : Mem} {f : α → Bool} : ∀ (l : List α), (∀ x ∈ l, AFn P I g (first ++ [argV x] ++ caps) S (Same (.d (.bool (f x))) S)) → Good P I g first caps argV (fun _ : Unit => S) (fun x s => (f x, s)) l ()
 | [], _ => trivial
 | x :: l, h => ⟨h x List.mem_cons_self, fun _ => good_of l fun y hy => h y (List.mem_cons_of_mem _ hy)⟩
theorem anyF_unit {α : Type} (f : α → Bool) : ∀ l : List α, (anyF (fun x (s : Unit) => (f x, s)) l ()).1 = l.any f
 | [] => rfl
 | x :: l => by
  unfold anyF
  cases h : f x
  ·simp [h, anyF_unit f l]
  ·simp [h]
theorem headsS_all : ∀ l : List ExT, headsS l = l.all headS
 | [] => by rw [headsS]; rfl
 | x :: l => by rw [headsS, headsS_all l]; rfl
theorem any_not {α : Type} (f : α → Bool) (l : List α) : l.any (fun x => !f x) = !l.all f := by
 induction l with
 | nil => rfl
 | cons x l ih => simp [ih, Bool.not_and]
def HeadOk (x : ExT) : Prop := ∀ (B : List (List V)) (T : List (Nat × Nat)), AFn Tryz.prog TabI 142 [exV x] ⟨B, T⟩ (Same (.d (.bool (headS x))) ⟨B, T⟩)
set_option maxHeartbeats 1000000 in
theorem head1_ab (x : ExT) (h : HeadOk x) (B : List (List V)) (T : List (Nat × Nat)) : AFn Tryz.prog TabI 152 [exV x] ⟨B, T⟩ (Same (.d (.bool (!headS x))) ⟨B, T⟩) := by
 obtain ⟨N, hn⟩ : ∃ N, B.length = N := ⟨_, rfl⟩
 have h := h (B ++ [[.d (.int .i64 x.kind), .d (.str x.text), .d (.int .u64 x.int), .d (.int .i64 x.type.kind), .d (.str x.type.name), .d (.sl (x.type.elem.map tyD)), .d (.sl (ssD x.names)), .d (.sl (x.kids.map exD))]]) T
 unfold exV at h ⊢
 refine AFn.body Tryz.func152 rfl (by kernel_rfl) ?_
 refine ARun.go 100 ?_
 simp only [Tryz.f152, WO, seval, hn]
 refine callS_fn (h) ?_
 rintro _ _ ⟨rfl, rfl⟩
 refine ARun.go 100 ?_
 simp only [WO, seval, hn]
 refine ARun.ret Tryz.func152 rfl (Left.box ?_)
 exact ⟨rfl, rfl⟩
set_option maxHeartbeats 2000000 in
theorem head_step (k : Int) (t : List UInt8) (i : Int) (ty : TyT) (ns : List (List UInt8)) (ks : List ExT) (hx : ∀ x ∈ ks, HeadOk x) : HeadOk (.mk k t i ty ns ks) := by
 intro B T
 obtain ⟨N, hn⟩ : ∃ N, B.length = N := ⟨_, rfl⟩
 have hS : headS (.mk k t i ty ns ks) = (decide (k ≠ 14) && decide (k ≠ 15) && ks.all headS) := by rw [headS, headsS_all]
 simp only [exV, ExT.kind, ExT.text, ExT.int, ExT.type, ExT.names, ExT.kids]
 refine AFn.bodyS Tryz.func142 rfl (by kernel_rfl) fun hsm => ?_
 simp only [smL, sm, exV, stV, tyV, caV, paV, suV, fuV, prV, Bool.and_eq_true, decide_eq_true_eq, and_true, true_and, List.length_map, ssD_length] at hsm
 refine ARun.go 100 ?_
 simp only [Tryz.f142, WO, seval, hn]
 obtain ⟨-, -, -, -, hl⟩ := hsm
 repeat' ((first | refine guardB_of (fun h => ?_) (fun h => ?_) | refine condS_of (fun h => ?_) (fun h => ?_)) <;> simp only [WO, seval, h, hn])
 all_goals first
  | (refine ARun.ret Tryz.func142 rfl (Left.box ?_)
     rw [hS]
     (try clear ih)
     (try simp only [dnw] at *)
     simp only [fnw, seval, Same] <;> simp [*]
     skip)
  | (refine callS_fn (containsFunc_Expr 152 [] [] (fun _ : Unit => _) (fun x s => (!headS x, s)) (fun _ _ => ⟨rfl, rfl⟩) ks hl () (good_of ks fun x hm => head1_ab x (hx x hm) _ T)) ?_
     rintro _ _ ⟨rfl, rfl⟩
     rw [anyF_unit, any_not]
     refine ARun.go 100 ?_
     simp only [WO, seval, hn]
     refine ARun.ret Tryz.func142 rfl (Left.box ?_)
     rw [hS]
     (try clear ih)
     (try simp only [dnw] at *)
     simp only [fnw, seval, Same] <;> simp [*]
     skip)
mutual
theorem head_ab : ∀ x : ExT, HeadOk x
 | .mk k t i ty ns ks => head_step k t i ty ns ks (head_all ks)
theorem head_all : ∀ (ks : List ExT), ∀ x ∈ ks, HeadOk x
 | [], _, h => absurd h List.not_mem_nil
 | y :: l, x, h => by
  rcases List.mem_cons.1 h with e | e
  ·rw [e]; exact head_ab y
  ·exact head_all l x e
end
def exB (x : ExT) : List V := [.d (.int .i64 x.kind), .d (.str x.text), .d (.int .u64 x.int), .d (.int .i64 x.type.kind), .d (.str x.type.name), .d (.sl (x.type.elem.map tyD)), .d (.sl (ssD x.names)), .d (.sl (x.kids.map exD))]
theorem placeS_mk (k : Int) (t : List UInt8) (i : Int) (ty : TyT) (ns : List (List UInt8)) (ks : List ExT) : placeS (.mk k t i ty ns ks) = match ks with | [y] => if k = 9 then placeS y else decide (k = 1) | _ => decide (k = 1) := by
 rcases ks with _ | ⟨z, _ | ⟨z2, l⟩⟩ <;> simp [placeS]
set_option maxHeartbeats 2000000 in
theorem place_ab (x : ExT) (B : List (List V)) (T : List (Nat × Nat)) : AFn Tryz.prog TabI 141 [exV x] ⟨B, T⟩ (Same (.d (.bool (placeS x))) ⟨B, T⟩) := by
 obtain ⟨N, hn⟩ : ∃ N, B.length = N := ⟨_, rfl⟩
 unfold exV
 refine AFn.body Tryz.func141 rfl (by kernel_rfl) ?_
 refine ARun.go 100 ?_
 simp only [Tryz.f141, WO, seval, hn]
 refine ARun.loopW (fun y : ExT => (envOf 19 [(1, .ptr N 0)], ⟨B ++ [exB y], T⟩)) (fun y => placeS y = placeS x) (fun y => SizeOf.sizeOf y) x rfl ?_ rfl ?_
 ·simp only [envOf, List.replicate_succ, List.replicate_zero, List.foldl_cons, List.foldl_nil, List.set_cons_zero, List.set_cons_succ, EnvW, eq_self, or_true, true_or, and_self, Int.natCast_add, Int.natCast_one, Int.natCast_zero]
 rintro y hy ih
 cases y with
 | mk k t i ty ns ks =>
 have hp := placeS_mk k t i ty ns ks
 dsimp only [exB] at ih ⊢
 dsimp only [ExT.kind, ExT.text, ExT.int, ExT.type, ExT.names, ExT.kids] at ⊢
 rw [hp] at hy
 rcases ks with _ | ⟨z, _ | ⟨z2, l⟩⟩
 ·dsimp only at hy
  refine ARun.go 100 ?_
  simp only [WO, seval, hn, exD_eq]
  repeat' ((first | refine guardB_of (fun h => ?_) (fun h => ?_) | refine condS_of (fun h => ?_) (fun h => ?_)) <;> simp only [WO, seval, h, hn, exD_eq])
  all_goals
   refine ARun.ret Tryz.func141 rfl (Left.box ?_)
   rw [← hy]
   (try clear ih)
   (try simp only [dnw] at *)
   simp only [fnw, seval, Same] <;> simp [*]
   skip
 ·dsimp only at hy
  refine ARun.go 100 ?_
  simp only [WO, seval, hn, exD_eq]
  repeat' ((first | refine guardB_of (fun h => ?_) (fun h => ?_) | refine condS_of (fun h => ?_) (fun h => ?_)) <;> simp only [WO, seval, h, hn, exD_eq])
  all_goals first
   | (refine ARun.ret Tryz.func141 rfl (Left.box ?_)
      rw [← hy]
      (try clear ih)
      (try simp only [dnw] at *)
      simp only [fnw, seval, Same] <;> simp [*]
      skip)
   | (refine ih z ?_ (by simp only [ExT.mk.sizeOf_spec, List.cons.sizeOf_spec]; omega) _ _ ?_ ?_
      ·rw [← hy, if_pos (of_decide_eq_true (by assumption))]
      ·skip
       simp only [envOf, List.replicate_succ, List.replicate_zero, List.foldl_cons, List.foldl_nil, List.set_cons_zero, List.set_cons_succ, EnvW, eq_self, or_true, true_or, and_self, Int.natCast_add, Int.natCast_one, Int.natCast_zero]
       skip
      ·rfl)
 ·have hl2 : decide ((l.length : Int) + 1 + 1 = 1) = false := decide_eq_false (by omega)
  dsimp only at hy
  refine ARun.go 100 ?_
  simp only [WO, seval, hn, exD_eq, hl2]
  repeat' ((first | refine guardB_of (fun h => ?_) (fun h => ?_) | refine condS_of (fun h => ?_) (fun h => ?_)) <;> simp only [WO, seval, h, hn, exD_eq, hl2])
  all_goals
   refine ARun.ret Tryz.func141 rfl (Left.box ?_)
   rw [← hy]
   (try clear ih)
   (try simp only [dnw] at *)
   simp only [fnw, seval, Same] <;> simp [*]
   skip
set_option linter.defProp false
def c140 := by
 have c := KK_of Tryz.f140 (by conv => lhs; cbv)
 dsimp only [KK, KxP, doO, opO, List.map_cons, List.map_nil, List.toList_toArray] at c
 exact c
theorem b140 : FnIs Tryz.prog 140 Tryz.f140 6 := ⟨Tryz.func140, by kernel_rfl⟩
def c120 := by
 have c := KK_of Tryz.f120 (by conv => lhs; cbv)
 dsimp only [KK, KxP, doO, opO, List.map_cons, List.map_nil, List.toList_toArray] at c
 exact c
theorem b120 : FnIs Tryz.prog 120 Tryz.f120 149 := ⟨Tryz.func120, by kernel_rfl⟩
set_option maxHeartbeats 1000000 in
theorem sized1_ab (x : ExT) (B : List (List V)) (T : List (Nat × Nat)) : AFn Tryz.prog TabI 140 [exV x] ⟨B, T⟩ (Same (.d (.bool (!placeS x))) ⟨B, T⟩) := by
 obtain ⟨N, hn⟩ : ∃ N, B.length = N := ⟨_, rfl⟩
 have h := place_ab x (B ++ [[.d (.int .i64 x.kind), .d (.str x.text), .d (.int .u64 x.int), .d (.int .i64 x.type.kind), .d (.str x.type.name), .d (.sl (x.type.elem.map tyD)), .d (.sl (ssD x.names)), .d (.sl (x.kids.map exD))]]) T
 unfold exV at h ⊢
 refine b140.go 100 rfl fun _ => ?_
 simp only [W, seval, c140, hn]
 refine callS_fn (h) ?_
 rintro _ _ ⟨rfl, rfl⟩
 refine ARun.go 100 ?_
 simp only [W, seval, c140, hn]
 refine ARun.ret Tryz.func140 rfl (Left.box ?_)
 (try clear ih)
 (try simp only [dnw] at *)
 simp only [fnw, seval, Same] <;> simp [*]
 skip
def stB (s : StT) : List V := [.d (.int .i64 s.kind), .d (.sl (ssD s.names)), .d (.int .i64 s.type.kind), .d (.str s.type.name), .d (.sl (s.type.elem.map tyD)), .d (.sl (s.lefts.map exD)), .d (.sl (s.exprs.map exD)), .d (.sl (s.body.map stD)), .d (.sl (s.els.map stD)), .d (.sl (s.cases.map caD))]
def headOf : List ExT → Bool | [x] => headS x | _ => false
def sevenOf : List ExT → Bool | [x] => decide (x.kind = 7) | _ => false
def nameOf : List (List UInt8) → Bool | [x] => identS x | _ => false
def sizedB (k : Int) (ns : List (List UInt8)) (ls es : List ExT) (b3 b4 b5 b6 b7 b8 : Bool) : Bool :=
 if k = 1 then decide (es.length = 0) && nameOf ns && !b5 && !b6 && !b7 && !b8
 else if k = 2 then decide (0 < ls.length) && (decide (es.length = ls.length) || sevenOf es) && ls.all placeS && (!b3 && !b4) && !b6 && !b7 && !b8
 else if k = 3 then (!b3 && !b4) && !b5 && headOf es && !b8
 else if k = 4 then (!b3 && !b4) && !b5 && headOf es && !b7 && !b8
 else if k = 5 then (!b3 && !b4) && !b5 && headOf es && !b6
 else if k = 6 then (!b3 && !b4) && !b5 && decide (0 < es.length) && !b6 && !b7 && !b8
 else false
theorem sizedS_eq (s : StT) : sizedS s = sizedB s.kind s.names s.lefts s.exprs (decide ((0 : Int) < (s.names.length : Int))) (!zeroS s.type) (decide ((0 : Int) < (s.lefts.length : Int))) (decide ((0 : Int) < (s.body.length : Int))) (decide ((0 : Int) < (s.els.length : Int))) (decide ((0 : Int) < (s.cases.length : Int))) := by
 have e (n : Nat) : (!decide ((0 : Int) < (n : Int))) = decide (n = 0) := by
  rw [Bool.eq_iff_iff, Bool.not_eq_true', decide_eq_false_iff_not, decide_eq_true_iff]; omega
 have e2 {α : Type} (l : List α) (q : Decidable (l = [])) : decide (l.length = 0) = @decide (l = []) q := decide_eq_decide.2 List.length_eq_zero_iff
 unfold sizedS sizedB
 simp only [e, Bool.not_not]
 rw [e2 s.names, e2 s.lefts]
 rfl
def lastB (k : Int) (es : List ExT) (b3 b4 b5 b6 b7 b8 b9 : Bool) : Bool :=
 (if k = 3 ∨ k = 4 ∨ k = 5 then b9 && headOf es else b9) && !b3 && !b4 && !b5 && !b6 && !b7 && !b8
set_option maxHeartbeats 4000000 in
theorem sized_ab (s : StT) (B : List (List V)) (T : List (Nat × Nat)) : AFn Tryz.prog TabI 120 [stV s] ⟨B, T⟩ (Same (.d (.bool (sizedS s))) ⟨B, T⟩) := by
 obtain ⟨N, hn⟩ : ∃ N, B.length = N := ⟨_, rfl⟩
 have hs := sizedS_eq s
 unfold stV
 refine b120.go 100 rfl fun hsm => ?_
 simp only [smw] at hsm
 simp only [W, seval, c120, hn]
 obtain ⟨-, -, -, hlf, -⟩ := hsm
 refine ARun.draw (by kernel_rfl) (by kernel_rfl) (lexQ_ok 60 _ _ ?_)
 simp only [W, seval, c120, hn]
 refine ⟨_, zero_ab s.type _ _, ?_⟩
 simp only [W, seval, c120, hn]
 generalize decide ((0 : Int) < (s.names.length : Int)) = b3 at hs ⊢
 generalize (!zeroS s.type) = b4 at hs ⊢
 generalize hb5 : decide ((0 : Int) < (s.lefts.length : Int)) = b5 at hs ⊢
 generalize decide ((0 : Int) < (s.body.length : Int)) = b6 at hs ⊢
 generalize decide ((0 : Int) < (s.els.length : Int)) = b7 at hs ⊢
 generalize decide ((0 : Int) < (s.cases.length : Int)) = b8 at hs ⊢
 generalize sizedS s = res at hs ⊢
 refine ARun.go 9 ?_
 simp only [W, seval, c120, hn]
 refine ARun.join (fun c : Bool × Bool × Bool × Bool × Bool × Bool × Bool => (envS 149 [(1, .ptr N 0), (3, .d (.bool c.1)), (4, .d (.bool c.2.1)), (5, .d (.bool c.2.2.1)), (6, .d (.bool c.2.2.2.1)), (7, .d (.bool c.2.2.2.2.1)), (8, .d (.bool c.2.2.2.2.2.1)), (9, .d (.bool c.2.2.2.2.2.2))], ⟨B ++ [stB s], T⟩)) (fun c => (s.kind = 3 ∨ s.kind = 4 ∨ s.kind = 5 → c.2.2.2.2.2.2 = decide (s.exprs.length = 1)) ∧ lastB s.kind s.exprs c.1 c.2.1 c.2.2.1 c.2.2.2.1 c.2.2.2.2.1 c.2.2.2.2.2.1 c.2.2.2.2.2.2 = res) ?_ ?_
 ·rintro ⟨c3, c4, c5, c6, c7, c8, c9⟩ ⟨hc, hr⟩
  dsimp only [stB] at hc hr ⊢
  rw [← hr]
  clear hs hr
  have hcase : (s.kind = 3 ∨ s.kind = 4 ∨ s.kind = 5) → (∃ x, s.exprs[0]? = some x ∧ c9 = true ∧ headOf s.exprs = headS x) ∨ c9 = false := by
   intro h
   rw [hc h]
   rcases s.exprs with _ | ⟨x, _ | ⟨y, l⟩⟩
   ·exact .inr rfl
   ·exact .inl ⟨x, rfl, rfl, rfl⟩
   ·exact .inr (decide_eq_false (by simp))
  clear hc
  by_cases k345 : s.kind = 3 ∨ s.kind = 4 ∨ s.kind = 5
  ·have hl : lastB s.kind s.exprs c3 c4 c5 c6 c7 c8 c9 = ((c9 && headOf s.exprs) && !c3 && !c4 && !c5 && !c6 && !c7 && !c8) := by rw [lastB, if_pos k345]
   rw [hl]
   rcases hcase k345 with ⟨x, hg, rfl, hh⟩ | rfl
   ·rw [hh]
    have hd := head_ab x
    rcases k345 with k | k | k
    all_goals
     refine ARun.go 200 ?_
     simp only [W, seval, c120, hn, k]
     simp only [W, seval, c120, hg, List.getElem?_map, exD_eq, k]
     refine callS_fn (hd _ _) ?_
     rintro _ _ ⟨rfl, rfl⟩
     generalize headS x = q
     refine ARun.go 200 ?_
     simp only [W, seval, c120, hn, k]
     repeat' ((first | refine guardB_of (fun h => ?_) (fun h => ?_) | refine condS_of (fun h => ?_) (fun h => ?_)) <;> simp only [W, seval, c120, h, hn, k])
     all_goals
      refine ARun.ret Tryz.func120 rfl (Left.box ?_)
      (try clear ih)
      (try simp only [dnw] at *)
      simp only [fnw, seval, Same] <;> simp [*]
      skip
   ·rcases k345 with k | k | k
    all_goals
     refine ARun.go 200 ?_
     simp only [W, seval, c120, hn, k]
     refine ARun.ret Tryz.func120 rfl (Left.box ?_)
     (try clear ih)
     (try simp only [dnw] at *)
     simp only [fnw, seval, Same] <;> simp [*]
     skip
  ·have hl : lastB s.kind s.exprs c3 c4 c5 c6 c7 c8 c9 = (c9 && !c3 && !c4 && !c5 && !c6 && !c7 && !c8) := by rw [lastB, if_neg k345]
   rw [hl]
   have k3 : decide (s.kind = 3) = false := decide_eq_false fun h => k345 (.inl h)
   have k4 : decide (s.kind = 4) = false := decide_eq_false fun h => k345 (.inr (.inl h))
   have k5 : decide (s.kind = 5) = false := decide_eq_false fun h => k345 (.inr (.inr h))
   refine ARun.go 200 ?_
   simp only [W, seval, c120, hn, k3, k4, k5]
   repeat' ((first | refine guardB_of (fun h => ?_) (fun h => ?_) | refine condS_of (fun h => ?_) (fun h => ?_)) <;> simp only [W, seval, c120, h, hn, k3, k4, k5])
   all_goals
    refine ARun.ret Tryz.func120 rfl (Left.box ?_)
    (try clear ih)
    (try simp only [dnw] at *)
    simp only [fnw, seval, Same] <;> simp [*]
    skip
 ·intro K' hK
  have he1 : decide ((s.exprs.length : Int) = 1) = decide (s.exprs.length = 1) := decide_eq_decide.2 (by omega)
  have he6 : decide ((0 : Int) < (s.exprs.length : Int)) = decide (0 < s.exprs.length) := decide_eq_decide.2 (by omega)
  have he0 : decide ((s.exprs.length : Int) = 0) = decide (s.exprs.length = 0) := decide_eq_decide.2 (by omega)
  have hh : (decide (s.exprs.length = 1) && headOf s.exprs) = headOf s.exprs := by rcases s.exprs with _ | ⟨x, _ | ⟨y, l⟩⟩ <;> simp [headOf]
  by_cases k1 : s.kind = 1
  ·have hz : ∀ v : Bool, lastB s.kind s.exprs false false b5 b6 b7 b8 v = (v && !b5 && !b6 && !b7 && !b8) := fun v => by simp [lastB, k1]
   have hs : res = (decide (s.exprs.length = 0) && nameOf s.names && !b5 && !b6 && !b7 && !b8) := by rw [hs, sizedB, if_pos k1]
   rcases hN : s.names with _ | ⟨x, _ | ⟨y, l⟩⟩
   all_goals
    have hl2 : ∀ n : Nat, decide ((n : Int) + 1 + 1 = 1) = false := fun n => decide_eq_false (by omega)
    rw [hN] at hs
    refine ARun.goJ 400 ?_
    simp only [W, seval, c120, hn, k1, hN, he0, hl2]
    repeat' ((first | refine guardB_of (fun h => ?_) (fun h => ?_) | refine condS_of (fun h => ?_) (fun h => ?_)) <;> simp only [W, seval, c120, h, hn, k1, hN, he0, hl2])
    all_goals first
     | (refine hK (false, false, b5, b6, b7, b8, false) ⟨fun h => absurd h (by omega), ?_⟩ _ _ ?_ ?_
        ·rw [hz, hs]
         simp only [nameOf, h, Bool.and_false, Bool.false_and]
        ·skip
         refine Agree.env _ ?_
         simp only [agw, seval]
         skip
        ·simp only [stB, k1, hN])
     | (skip
        refine callS_fn (ident_ab _ _) ?_
        rintro _ _ ⟨rfl, rfl⟩
        refine ARun.goK 200 ?_
        simp only [W, seval, c120, hn, k1, hN, he0, hl2]
        refine hK (false, false, b5, b6, b7, b8, identS x) ⟨fun h => absurd h (by omega), ?_⟩ _ _ ?_ ?_
        ·rw [hz, hs]
         simp only [nameOf, h, Bool.true_and]
        ·skip
         refine Agree.env _ ?_
         simp only [agw, seval]
         skip
        ·simp only [stB, k1, hN])
     | (refine hK (false, false, b5, b6, b7, b8, false) ⟨fun h => absurd h (by omega), ?_⟩ _ _ ?_ ?_
        ·fail
        ·skip
         refine Agree.env _ ?_
         simp only [agw, seval]
         skip
        ·simp only [stB, k1, hN])
  by_cases k2 : s.kind = 2
  ·have hz : ∀ v : Bool, lastB s.kind s.exprs b3 b4 false b6 b7 b8 v = (v && !b3 && !b4 && !b6 && !b7 && !b8) := fun v => by simp [lastB, k2]
   have hs : res = (decide (0 < s.lefts.length) && (decide (s.exprs.length = s.lefts.length) || sevenOf s.exprs) && s.lefts.all placeS && (!b3 && !b4) && !b6 && !b7 && !b8) := by rw [hs, sizedB, if_neg k1, if_pos k2]
   have hb5' : decide (0 < s.lefts.length) = b5 := hb5 ▸ decide_eq_decide.2 (by omega)
   obtain ⟨be, hbe⟩ : ∃ b, decide ((s.exprs.length : Int) = (s.lefts.length : Int)) = b := ⟨_, rfl⟩
   have hbe' : decide (s.exprs.length = s.lefts.length) = be := hbe ▸ decide_eq_decide.2 (by omega)
   obtain ⟨b7', hsv⟩ : ∃ b, sevenOf s.exprs = b := ⟨_, rfl⟩
   rw [hb5', hbe', hsv] at hs
   have hw : ∀ v : Bool, v = (b5 && (be || b7') && s.lefts.all placeS) → lastB s.kind s.exprs b3 b4 false b6 b7 b8 v = res := fun v hv => by
    rw [hz, hs, hv]
    generalize s.lefts.all placeS = q
    cases b3 <;> cases b4 <;> cases b5 <;> cases be <;> cases b7' <;> cases q <;> cases b6 <;> cases b7 <;> cases b8 <;> rfl
   clear hz hs
   have hcase : (∃ x, s.exprs[0]? = some x ∧ decide ((s.exprs.length : Int) = 1) = true ∧ decide (x.kind = 7) = b7') ∨ (decide ((s.exprs.length : Int) = 1) = false ∧ b7' = false) := by
    rw [← hsv]
    rcases s.exprs with _ | ⟨x, _ | ⟨y, l⟩⟩
    ·exact .inr ⟨by decide, rfl⟩
    ·exact .inl ⟨x, rfl, by simp, rfl⟩
    ·exact .inr ⟨decide_eq_false (by simp; omega), rfl⟩
   rcases hcase with ⟨x, hg, hg1, hg2⟩ | ⟨hg1, hg2⟩
   ·refine ARun.goJ 400 ?_
    simp only [W, seval, c120, hn, k2, hb5, hbe, hg, hg1, hg2, List.getElem?_map, exD_eq]
    repeat' ((first | refine guardB_of (fun h => ?_) (fun h => ?_) | refine condS_of (fun h => ?_) (fun h => ?_)) <;> simp only [W, seval, c120, h, hn, k2, hb5, hbe, hg, hg1, hg2, List.getElem?_map, exD_eq])
    all_goals first
     | (refine hK (b3, b4, false, b6, b7, b8, false) ⟨fun h => absurd h (by omega), hw _ (by simp [*])⟩ _ _ ?_ ?_
        ·skip
         refine Agree.env _ ?_
         simp only [agw, seval]
         skip
        ·simp only [stB, k2])
     | (refine callS_fn (containsFunc_Expr 140 [] [] (fun _ : Unit => _) (fun x s => (!placeS x, s)) (fun _ _ => ⟨rfl, rfl⟩) s.lefts hlf () (good_of s.lefts fun x hm => sized1_ab x _ T)) ?_
        rintro _ _ ⟨rfl, rfl⟩
        rw [anyF_unit, any_not]
        refine ARun.goK 200 ?_
        simp only [W, seval, c120, hn, k2, Bool.not_not]
        refine hK (b3, b4, false, b6, b7, b8, s.lefts.all placeS) ⟨fun h => absurd h (by omega), hw _ (by simp [*])⟩ _ _ ?_ ?_
        ·skip
         refine Agree.env _ ?_
         simp only [agw, seval]
         skip
        ·simp only [stB, k2])
     | fail
   ·refine ARun.goJ 400 ?_
    simp only [W, seval, c120, hn, k2, hb5, hbe, hg1]
    repeat' ((first | refine guardB_of (fun h => ?_) (fun h => ?_) | refine condS_of (fun h => ?_) (fun h => ?_)) <;> simp only [W, seval, c120, h, hn, k2, hb5, hbe, hg1])
    all_goals first
     | (refine hK (b3, b4, false, b6, b7, b8, false) ⟨fun h => absurd h (by omega), hw _ (by simp [*])⟩ _ _ ?_ ?_
        ·skip
         refine Agree.env _ ?_
         simp only [agw, seval]
         skip
        ·simp only [stB, k2])
     | (refine callS_fn (containsFunc_Expr 140 [] [] (fun _ : Unit => _) (fun x s => (!placeS x, s)) (fun _ _ => ⟨rfl, rfl⟩) s.lefts hlf () (good_of s.lefts fun x hm => sized1_ab x _ T)) ?_
        rintro _ _ ⟨rfl, rfl⟩
        rw [anyF_unit, any_not]
        refine ARun.goK 200 ?_
        simp only [W, seval, c120, hn, k2, Bool.not_not]
        refine hK (b3, b4, false, b6, b7, b8, s.lefts.all placeS) ⟨fun h => absurd h (by omega), hw _ (by simp [*])⟩ _ _ ?_ ?_
        ·skip
         refine Agree.env _ ?_
         simp only [agw, seval]
         skip
        ·simp only [stB, k2])
     | fail
  by_cases k3 : s.kind = 3
  ·have hs : res = ((!b3 && !b4) && !b5 && headOf s.exprs && !b8) := by rw [hs, sizedB, if_neg k1, if_neg k2, if_pos k3]
   refine ARun.goJ 400 ?_
   simp only [W, seval, c120, hn, k3, he1]
   refine hK (b3, b4, b5, false, false, b8, decide (s.exprs.length = 1)) ⟨fun _ => rfl, ?_⟩ _ _ ?_ ?_
   ·rw [hs, lastB, if_pos (.inl k3), hh]
    generalize headOf s.exprs = hd
    cases b3 <;> cases b4 <;> cases b5 <;> cases b8 <;> cases hd <;> rfl
   ·skip
    refine Agree.env _ ?_
    simp only [agw, seval]
    skip
   ·simp only [stB, k3]
  by_cases k4 : s.kind = 4
  ·have hs : res = ((!b3 && !b4) && !b5 && headOf s.exprs && !b7 && !b8) := by rw [hs, sizedB, if_neg k1, if_neg k2, if_neg k3, if_pos k4]
   refine ARun.goJ 400 ?_
   simp only [W, seval, c120, hn, k4, he1]
   refine hK (b3, b4, b5, false, b7, b8, decide (s.exprs.length = 1)) ⟨fun _ => rfl, ?_⟩ _ _ ?_ ?_
   ·rw [hs, lastB, if_pos (.inr (.inl k4)), hh]
    generalize headOf s.exprs = hd
    cases b3 <;> cases b4 <;> cases b5 <;> cases b7 <;> cases b8 <;> cases hd <;> rfl
   ·skip
    refine Agree.env _ ?_
    simp only [agw, seval]
    skip
   ·simp only [stB, k4]
  by_cases k5 : s.kind = 5
  ·have hs : res = ((!b3 && !b4) && !b5 && headOf s.exprs && !b6) := by rw [hs, sizedB, if_neg k1, if_neg k2, if_neg k3, if_neg k4, if_pos k5]
   refine ARun.goJ 400 ?_
   simp only [W, seval, c120, hn, k5, he1]
   refine hK (b3, b4, b5, b6, false, false, decide (s.exprs.length = 1)) ⟨fun _ => rfl, ?_⟩ _ _ ?_ ?_
   ·rw [hs, lastB, if_pos (.inr (.inr k5)), hh]
    generalize headOf s.exprs = hd
    cases b3 <;> cases b4 <;> cases b5 <;> cases b6 <;> cases hd <;> rfl
   ·skip
    refine Agree.env _ ?_
    simp only [agw, seval]
    skip
   ·simp only [stB, k5]
  by_cases k6 : s.kind = 6
  ·have hs : res = ((!b3 && !b4) && !b5 && decide (0 < s.exprs.length) && !b6 && !b7 && !b8) := by rw [hs, sizedB, if_neg k1, if_neg k2, if_neg k3, if_neg k4, if_neg k5, if_pos k6]
   refine ARun.goJ 400 ?_
   simp only [W, seval, c120, hn, k6, he6]
   refine hK (b3, b4, b5, b6, b7, b8, decide (0 < s.exprs.length)) ⟨fun h => absurd h (by omega), ?_⟩ _ _ ?_ ?_
   ·rw [hs, lastB, if_neg (by omega)]
    generalize decide (0 < s.exprs.length) = hd
    cases b3 <;> cases b4 <;> cases b5 <;> cases b6 <;> cases b7 <;> cases b8 <;> cases hd <;> rfl
   ·skip
    refine Agree.env _ ?_
    simp only [agw, seval]
    skip
   ·simp only [stB, k6]
  have hs : res = false := by rw [hs, sizedB, if_neg k1, if_neg k2, if_neg k3, if_neg k4, if_neg k5, if_neg k6]
  have e1 := decide_eq_false k1
  have e2 := decide_eq_false k2
  have e3 := decide_eq_false k3
  have e4 := decide_eq_false k4
  have e5 := decide_eq_false k5
  have e6 := decide_eq_false k6
  refine ARun.goJ 400 ?_
  simp only [W, seval, c120, hn, e1, e2, e3, e4, e5, e6]
  refine ARun.ret Tryz.func120 rfl (Left.box ?_)
  rw [hs]
  (try clear ih)
  (try simp only [dnw] at *)
  simp only [fnw, seval, Same] <;> simp [*]
  skip
set_option maxHeartbeats 1000000 in
theorem typ_ab0 (k : Int) (n : List UInt8) (es : List TyT) (he : es.length ≠ 1) (c : Nat) (d p : Int) (B : List (List V)) (T : List (Nat × Nat)) (h : B[c]? = some [.d (.int .i64 p)]) (hp : 0 ≤ p ∧ p ≤ 60000) :
 AFn Tryz.prog TabI 67 [.ptr c 0, tyV (.mk k n es), .d (.int .i64 d)] ⟨B, T⟩ (Same (.d (.bool (tyS identS (.mk k n es) d p).1)) ⟨B.set c [.d (.int .i64 (tyS identS (.mk k n es) d p).2)], T⟩) := by
 obtain ⟨N, hn⟩ : ∃ N, B.length = N := ⟨_, rfl⟩
 have hc := (List.getElem?_eq_some_iff.1 h).1
 have hi : c < N := by omega
 have he' : decide ((es.length : Int) = 1) = false := decide_eq_false (by omega)
 have hr := tyRest_no identS k n d p es (.inr he)
 have hne : es ≠ [] ∨ es = [] := by by_cases h : es = [] <;> simp [h]
 simp only [tyV, TyT.kind, TyT.name, TyT.elem]
 refine AFn.body Tryz.func67 rfl (by kernel_rfl) ?_
 refine ARun.go 200 ?_
 simp only [Tryz.f67, WO, seval, hn, hi]
 refine callS_fn (part_ab c d p _ _ (by rw [bx_old hc]; exact h) hp) ?_
 rintro _ _ ⟨rfl, rfl⟩
 refine ARun.go 200 ?_
 simp only [WO, seval, hn, hi, he']
 cases hk : partOk d p
 ·simp only [WO, seval, hn, hi, hk, Bool.not_false]
  refine ARun.ret Tryz.func67 rfl (Left.set (by rfl) ?_)
  have hS : tyS identS (.mk k n es) d p = (false, p + 1) := by unfold tyS; rw [if_pos hk]
  rw [hS]
  exact ⟨rfl, rfl⟩
 ·have hS := tyS_go identS k n es d p (by rw [hk]; decide)
  rw [hr] at hS
  rw [hS]
  simp only [WO, seval, hn, hi, hk, Bool.not_true, he']
  repeat' ((first | refine guardB_of (fun h => ?_) (fun h => ?_) | refine condS_of (fun h => ?_) (fun h => ?_)) <;> simp only [WO, seval, h, hn, hi, he'])
  all_goals first
   | (refine ARun.ret Tryz.func67 rfl (Left.set (by rfl) ?_)
      (try clear ih)
      (try simp only [dnw] at *)
      simp only [fnw, seval, Same] <;> simp [*]
      skip)
   | (skip
      refine callS_fn (ident_ab n _) ?_
      rintro _ _ ⟨rfl, rfl⟩
      refine ARun.go 200 ?_
      simp only [WO, seval, hn, hi]
      repeat' ((first | refine guardB_of (fun h => ?_) (fun h => ?_) | refine condS_of (fun h => ?_) (fun h => ?_)) <;> simp only [WO, seval, h, hn, hi])
      all_goals
       refine ARun.ret Tryz.func67 rfl (Left.set (by rfl) ?_)
       (try clear ih)
       (try simp only [dnw] at *)
       simp only [fnw, seval, Same] <;> simp [*]
       skip)
set_option maxHeartbeats 2000000 in
theorem typ_ab : ∀ (t : TyT) (c : Nat) (d p : Int) (B : List (List V)) (T : List (Nat × Nat)), B[c]? = some [.d (.int .i64 p)] → 0 ≤ p ∧ p ≤ 60000 → 0 ≤ d ∧ d ≤ 61 →
 AFn Tryz.prog TabI 67 [.ptr c 0, tyV t, .d (.int .i64 d)] ⟨B, T⟩ (Same (.d (.bool (tyS identS t d p).1)) ⟨B.set c [.d (.int .i64 (tyS identS t d p).2)], T⟩)
 | .mk k n [], c, d, p, B, T, h, hp, hd => typ_ab0 k n [] (by simp) c d p B T h hp
 | .mk k n (e :: e2 :: es), c, d, p, B, T, h, hp, hd => typ_ab0 k n _ (by simp) c d p B T h hp
 | .mk k n [e], c, d, p, B, T, h, hp, hd => by
  obtain ⟨N, hn⟩ : ∃ N, B.length = N := ⟨_, rfl⟩
  have hc := (List.getElem?_eq_some_iff.1 h).1
  have hi : c < N := by omega
  have hw := wrap_in (d + 1) (by omega)
  have ih := typ_ab e c (d + 1) (p + 1)
  simp only [tyV, TyT.kind, TyT.name, TyT.elem]
  refine AFn.body Tryz.func67 rfl (by kernel_rfl) ?_
  refine ARun.go 200 ?_
  simp only [Tryz.f67, WO, seval, hn, hi, tyD_eq]
  refine callS_fn (part_ab c d p _ _ (by rw [bx_old hc]; exact h) hp) ?_
  rintro _ _ ⟨rfl, rfl⟩
  refine ARun.go 200 ?_
  simp only [WO, seval, hn, hi, hw, tyD_eq]
  cases hk : partOk d p
  ·simp only [WO, seval, hn, hi, hk, Bool.not_false]
   refine ARun.ret Tryz.func67 rfl (Left.set (by rfl) ?_)
   have hS : tyS identS (.mk k n [e]) d p = (false, p + 1) := by unfold tyS; rw [if_pos hk]
   rw [hS]
   exact ⟨rfl, rfl⟩
  ·have hS := tyS_go identS k n [e] d p (by rw [hk]; decide)
   have hpo : p + 1 ≤ 60000 ∧ d ≤ 60 := by
    unfold partOk at hk
    rw [Bool.and_eq_true, decide_eq_true_iff, decide_eq_true_iff] at hk
    exact hk
   simp only [tyRest] at hS
   rw [hS]
   simp only [WO, seval, hn, hi, hk, Bool.not_true, hw, tyD_eq]
   repeat' ((first | refine guardB_of (fun h => ?_) (fun h => ?_) | refine condS_of (fun h => ?_) (fun h => ?_)) <;> simp only [WO, seval, h, hn, hi, hw, tyD_eq])
   all_goals first
    | (refine ARun.ret Tryz.func67 rfl (Left.set (by rfl) ?_)
       (try clear ih)
       (try simp only [dnw] at *)
       simp only [fnw, seval, Same] <;> simp [*]
       skip)
    | (skip
       refine callS_fn (ident_ab n _) ?_
       rintro _ _ ⟨rfl, rfl⟩
       refine ARun.go 200 ?_
       simp only [WO, seval, hn, hi]
       repeat' ((first | refine guardB_of (fun h => ?_) (fun h => ?_) | refine condS_of (fun h => ?_) (fun h => ?_)) <;> simp only [WO, seval, h, hn, hi])
       all_goals
        refine ARun.ret Tryz.func67 rfl (Left.set (by rfl) ?_)
        (try clear ih)
        (try simp only [dnw] at *)
        simp only [fnw, seval, Same] <;> simp [*]
        skip)
    | (skip
       refine callS_fn (ih _ T ?_ (by omega) (by omega)) ?_
       ·rw [bx_old (by simp; omega)]; exact bx_get hc
       rintro _ _ ⟨rfl, rfl⟩
       refine ARun.go 200 ?_
       simp only [WO, seval, hn, hi]
       repeat' ((first | refine guardB_of (fun h => ?_) (fun h => ?_) | refine condS_of (fun h => ?_) (fun h => ?_)) <;> simp only [WO, seval, h, hn, hi])
       all_goals
        refine ARun.ret Tryz.func67 rfl (Left.set (by rfl) ?_)
        (try clear ih)
        (try simp only [dnw] at *)
        simp only [fnw, seval, Same] <;> simp [*]
        skip)
set_option maxHeartbeats 4000000 in
theorem bare_ab (x : ExT) (c : Nat) (d p : Int) (B : List (List V)) (T : List (Nat × Nat)) (hB : B[c]? = some [.d (.int .i64 p)]) (hp : 0 ≤ p ∧ p ≤ 60000) (hd : 0 ≤ d ∧ d ≤ 60) :
 AFn Tryz.prog TabI 78 [.ptr c 0, exV x, .d (.int .i64 d)] ⟨B, T⟩ (Same (.d (.bool (bareS x d p).1)) ⟨B.set c [.d (.int .i64 (bareS x d p).2)], T⟩) := by
 obtain ⟨N, hn⟩ : ∃ N, B.length = N := ⟨_, rfl⟩
 have hc := (List.getElem?_eq_some_iff.1 hB).1
 have hi : c < N := by omega
 have hw := wrap_in (d + 1) (by omega)
 cases x with
 | mk k t i ty ns ks =>
 simp only [exV, ExT.kind, ExT.text, ExT.int, ExT.type, ExT.names, ExT.kids]
 refine AFn.bodyS Tryz.func78 rfl (by kernel_rfl) fun hsm => ?_
 simp only [smL, sm, exV, stV, tyV, caV, paV, suV, fuV, prV, Bool.and_eq_true, decide_eq_true_eq, and_true, true_and, List.length_map, ssD_length] at hsm
 refine ARun.go 200 ?_
 simp only [Tryz.f78, WO, seval, hn, hi]
 obtain ⟨bn, hz2⟩ : ∃ b, ∀ q : Decidable (0 < ns.length), @decide (0 < ns.length) q = b := ⟨decide (0 < ns.length), fun _ => decide_eq_decide.2 Iff.rfl⟩
 have hz : decide ((0 : Int) < (ns.length : Int)) = bn := (decide_eq_decide.2 (by omega)).trans (hz2 inferInstance)
 obtain ⟨-, -, -, hs4, -⟩ := hsm
 obtain ⟨bl, hz3⟩ : ∃ b, ∀ q : Decidable (ns.length = ks.length), @decide (ns.length = ks.length) q = b := ⟨decide (ns.length = ks.length), fun _ => decide_eq_decide.2 Iff.rfl⟩
 have hz4 : decide ((ns.length : Int) = (ks.length : Int)) = bl := (decide_eq_decide.2 (by omega)).trans (hz3 inferInstance)
 refine ARun.draw (by kernel_rfl) (by kernel_rfl) (lexQ_ok 60 _ _ ?_)
 simp only [WO, seval, hn, hi, hz]
 refine ⟨_, zero_ab ty _ _, ?_⟩
 simp only [WO, seval, hn, hi, hz]
 have hbs : B.set c [.d (.int .i64 p)] = B := by
  obtain ⟨_, h⟩ := List.getElem?_eq_some_iff.1 hB
  rw [← h, List.set_getElem_self]
 refine ARun.go 400 ?_
 simp only [WO, seval, hn, hi, hw, hz]
 repeat' ((first | refine guardB_of (fun h => ?_) (fun h => ?_) | refine condS_of (fun h => ?_) (fun h => ?_)) <;> simp only [WO, seval, h, hn, hi, hw])
 all_goals first
  | (skip
     refine callS_fn (ident_ab _ _) ?_
     rintro _ _ ⟨rfl, rfl⟩
     refine ARun.go 200 ?_
     simp only [WO, seval, hn, hi]
     repeat' ((first | refine guardB_of (fun h => ?_) (fun h => ?_) | refine condS_of (fun h => ?_) (fun h => ?_)) <;> simp only [WO, seval, h, hn, hi])
     all_goals
      refine ARun.ret Tryz.func78 rfl (Left.box ?_)
      simp only [bareS, bareT, ExT.kind, ExT.text, ExT.int, ExT.type, ExT.names, ExT.kids, hz2]
      (try clear ih)
      (try simp only [dnw] at *)
      simp only [fnw, seval, Same] <;> simp [*]
      (try exact (hz2 _).symm)
      skip)
  | (skip
     refine callS_fn (rank_ab _ _ _) ?_
     rintro _ _ ⟨rfl, rfl⟩
     refine ARun.go 200 ?_
     simp only [WO, seval, hn, hi]
     repeat' ((first | refine guardB_of (fun h => ?_) (fun h => ?_) | refine condS_of (fun h => ?_) (fun h => ?_)) <;> simp only [WO, seval, h, hn, hi])
     all_goals
      refine ARun.ret Tryz.func78 rfl (Left.box ?_)
      simp only [bareS, bareT, ExT.kind, ExT.text, ExT.int, ExT.type, ExT.names, ExT.kids, hz2]
      (try clear ih)
      (try simp only [dnw] at *)
      simp only [fnw, seval, Same] <;> simp [*]
      (try exact (hz2 _).symm)
      skip)
  | (skip
     refine ARun.draw (by kernel_rfl) (by kernel_rfl) (lexQ_ok 60 _ _ ?_)
     simp only [WO, seval, hn, hi]
     refine ARun.go 200 ?_
     simp only [WO, seval, hn, hi]
     repeat' ((first | refine guardB_of (fun h => ?_) (fun h => ?_) | refine condS_of (fun h => ?_) (fun h => ?_)) <;> simp only [WO, seval, h, hn, hi])
     all_goals
      refine ARun.ret Tryz.func78 rfl (Left.box ?_)
      simp only [bareS, bareT, ExT.kind, ExT.text, ExT.int, ExT.type, ExT.names, ExT.kids, hz2]
      (try clear ih)
      (try simp only [dnw] at *)
      simp only [fnw, seval, Same] <;> simp [*]
      (try exact (hz2 _).symm)
      skip)
  | (refine ARun.ret Tryz.func78 rfl (Left.box ?_)
     simp only [bareS, bareT, ExT.kind, ExT.text, ExT.int, ExT.type, ExT.names, ExT.kids, hz2]
     (try clear ih)
     (try simp only [dnw] at *)
     simp only [fnw, seval, Same] <;> simp [*]
     (try exact (hz2 _).symm)
     skip)
  | (refine callS_fn (typ_ab ty c (d + 1) p _ T (by rw [bx_old (by omega)]; exact hB) hp (by omega)) ?_
     rintro _ _ ⟨rfl, rfl⟩
     obtain ⟨⟨b, q⟩, hty⟩ : ∃ r, tyS identS ty (d + 1) p = r := ⟨_, rfl⟩
     simp only [WO, seval, hty]
     refine ARun.go 300 ?_
     simp only [WO, seval, hn, hi, hz4]
     repeat' ((first | refine guardB_of (fun h => ?_) (fun h => ?_) | refine condS_of (fun h => ?_) (fun h => ?_)) <;> simp only [WO, seval, h, hn, hi, hz4])
     all_goals first
      | (refine ARun.ret Tryz.func78 rfl (Left.set (by rfl) ?_)
         simp only [bareS, bareT, ExT.kind, ExT.text, ExT.int, ExT.type, ExT.names, ExT.kids, hz2, hz3, hty]
         (try clear ih)
         (try simp only [dnw] at *)
         simp only [fnw, seval, Same] <;> simp [*]
         (try exact (hz2 _).symm)
         (try (intro e; have e2 := (hz3 _).symm.trans e; simp_all))
         skip)
      | (skip
         refine callS_fn (different_ab ns hs4 _ _) ?_
         rintro _ _ ⟨rfl, rfl⟩
         refine ARun.go 300 ?_
         simp only [WO, seval, hn, hi, hz4]
         repeat' ((first | refine guardB_of (fun h => ?_) (fun h => ?_) | refine condS_of (fun h => ?_) (fun h => ?_)) <;> simp only [WO, seval, h, hn, hi, hz4])
         all_goals
          refine ARun.ret Tryz.func78 rfl (Left.set (by rfl) ?_)
          simp only [bareS, bareT, ExT.kind, ExT.text, ExT.int, ExT.type, ExT.names, ExT.kids, hz2, hz3, hty]
          (try clear ih)
          (try simp only [dnw] at *)
          simp only [fnw, seval, Same] <;> simp [*]
          (try exact (hz2 _).symm)
          (try exact (hz3 _).trans (by assumption))
          (try (intro e; have e2 := (hz3 _).symm.trans e; simp_all))
          skip))
def ExprOk (x : ExT) : Prop := ∀ (c : Nat) (d p : Int) (B : List (List V)) (T : List (Nat × Nat)), B[c]? = some [.d (.int .i64 p)] → 0 ≤ p ∧ p ≤ 60000 → 0 ≤ d ∧ d ≤ 61 →
 AFn Tryz.prog TabI 47 [.ptr c 0, exV x, .d (.int .i64 d)] ⟨B, T⟩ (Same (.d (.bool (exS x d p).1)) ⟨B.set c [.d (.int .i64 (exS x d p).2)], T⟩)
set_option maxHeartbeats 2000000 in
theorem exprs_ab (l : List ExT) (hx : ∀ x ∈ l, ExprOk x) (c : Nat) (d m p : Int) (B : List (List V)) (T : List (Nat × Nat)) (hB : B[c]? = some [.d (.int .i64 p)]) (hp : 0 ≤ p ∧ p ≤ 60000) (hd : 0 ≤ d ∧ d ≤ 61) :
 AFn Tryz.prog TabI 79 [.ptr c 0, .d (.sl (l.map exD)), .d (.int .i64 d), .d (.int .i64 m)] ⟨B, T⟩ (Same (.d (.bool ((exsS l d p).1 && decide ((l.length : Int) ≤ m)))) ⟨B.set c [.d (.int .i64 (exsS l d p).2)], T⟩) := by
 obtain ⟨N, hn⟩ : ∃ N, B.length = N := ⟨_, rfl⟩
 have hc := (List.getElem?_eq_some_iff.1 hB).1
 have hi : c < N := by omega
 have hbs : B.set c [.d (.int .i64 p)] = B := by
  obtain ⟨_, h⟩ := List.getElem?_eq_some_iff.1 hB
  rw [← h, List.set_getElem_self]
 refine AFn.bodyS Tryz.func79 rfl (by kernel_rfl) fun hsm => ?_
 simp only [smL, sm, exV, stV, tyV, caV, paV, suV, fuV, prV, Bool.and_eq_true, decide_eq_true_eq, and_true, true_and, List.length_map, ssD_length] at hsm
 refine ARun.go 100 ?_
 simp only [Tryz.f79, WO, seval, hn, hi]
 refine ARun.fits fun hf => ?_
 refine ARun.loopB (fun a : Nat × Int => (envOf 30 [(0, .ptr c 0), (1, .d (.sl (l.map exD))), (2, .d (.int .i64 d)), (3, .d (.int .i64 m)), (8, .d (.bool false)), (9, .func 47 [.ptr c 0] []), (14, .d (.sl (l.map exD))), (15, .d (.int .i64 l.length)), (16, .d (.int .i64 a.1))], ⟨B.set c [.d (.int .i64 a.2)], T⟩)) (fun a => a.1 ≤ l.length ∧ (0 ≤ a.2 ∧ a.2 ≤ 60000) ∧ exsS l d p = exsS (l.drop a.1) d a.2) (fun a => l.length - a.1) (0, p) ⟨by omega, hp, rfl⟩ ?_ (by rw [hbs]) ?_
 ·simp only [envOf, List.replicate_succ, List.replicate_zero, List.foldl_cons, List.foldl_nil, List.set_cons_zero, List.set_cons_succ, EnvW, eq_self, or_true, true_or, and_self, Int.natCast_add, Int.natCast_one, Int.natCast_zero]
 rintro ⟨i, q⟩ ⟨h1, h2, h3⟩ ih
 dsimp only at h1 h2 h3 ih ⊢
 by_cases hlt : i < l.length
 ·have hw := wrap_in ((i : Int) + 1) (by omega)
  have hg := List.getElem?_eq_getElem hlt
  rw [exsS_step l i hlt] at h3
  have hlt' : decide ((i : Int) < (l.length : Int)) = true := decide_eq_true (by omega)
  refine ARun.go 100 ?_
  simp only [WO, seval, hn, hi, List.getElem?_map, hg, hlt', exD_eq]
  refine callS_of (hx l[i] (List.getElem_mem hlt) c d q _ T (by rw [bx_old (by simp; omega)]; exact bx_get hc) h2 hd) ?_
  rintro _ _ ⟨rfl, rfl⟩
  have hok := exS_ok l[i] d q
  obtain ⟨⟨b, r⟩, he⟩ : ∃ r, exS l[i] d q = r := ⟨_, rfl⟩
  rw [he] at h3 hok
  dsimp only at hok
  refine ARun.go 100 ?_
  simp only [WO, seval, hn, hi, he]
  cases b
  ·simp only [WO, seval, hn, hi]
   refine ARun.ret Tryz.func79 rfl (Left.set (by rfl) ?_)
   rw [h3, if_pos rfl]
   exact ⟨rfl, rfl⟩
  ·have hok := hok rfl
   simp only [WO, seval, hn, hi, hw]
   refine ih (i + 1, r) ⟨hlt, by dsimp only; omega, by rw [h3]; rfl⟩ (by dsimp only; omega) _ _ _ _ rfl ⟨by simp; omega, Nat.le_refl _⟩ (hf.set rfl) ?_
   simp only [envOf, List.replicate_succ, List.replicate_zero, List.foldl_cons, List.foldl_nil, List.set_cons_zero, List.set_cons_succ, EnvLe, fit, fitL, eq_self, or_true, true_or, and_self, true_and, and_true, Bool.and_true, Bool.true_and, Bool.and_self, decide_true, List.length_set, Int.natCast_add, Int.natCast_one, Int.natCast_zero, hn, hi]
 ·have hlt' : decide ((i : Int) < (l.length : Int)) = false := decide_eq_false (by omega)
  refine ARun.go 100 ?_
  simp only [WO, seval, hlt']
  refine ARun.ret Tryz.func79 rfl (Left.set0 rfl ?_)
  rw [List.drop_eq_nil_of_le (by omega), exsS] at h3
  rw [h3]
  exact ⟨rfl, rfl⟩
theorem partOk_in {d p : Int} (h : partOk d p = true) : p + 1 ≤ 60000 ∧ d ≤ 60 := by
 unfold partOk at h
 rw [Bool.and_eq_true, decide_eq_true_iff, decide_eq_true_iff] at h
 exact h
set_option maxHeartbeats 4000000 in
theorem expr_step (k : Int) (t : List UInt8) (i : Int) (ty : TyT) (ns : List (List UInt8)) (ks : List ExT) (hx : ∀ x ∈ ks, ExprOk x) : ExprOk (.mk k t i ty ns ks) := by
 intro c d p B T hB hp hd
 obtain ⟨N, hn⟩ : ∃ N, B.length = N := ⟨_, rfl⟩
 have hc := (List.getElem?_eq_some_iff.1 hB).1
 have hi : c < N := by omega
 have hw := wrap_in (d + 1) (by omega)
 obtain ⟨mo, hmo⟩ : ∃ m, manyS k = m := ⟨_, rfl⟩
 have hS : exS (.mk k t i ty ns ks) d p = if partOk d p = false then (false, p + 1)
  else if mostS k < (ks.length : Int) ∨ mo = -2 ∨ (0 ≤ mo ∧ (ks.length : Int) ≠ mo) then (false, p + 1)
  else if (bareS (.mk k t i ty ns ks) d (p + 1)).1 = false then (false, (bareS (.mk k t i ty ns ks) d (p + 1)).2)
  else exsS ks (d + 1) (bareS (.mk k t i ty ns ks) d (p + 1)).2 := by rw [exS, hmo]
 have hpart := part_ab c d p (B ++ [[.d (.int .i64 k), .d (.str t), .d (.int .u64 i), .d (.int .i64 ty.kind), .d (.str ty.name), .d (.sl (ty.elem.map tyD)), .d (.sl (ssD ns)), .d (.sl (ks.map exD))]]) T (by rw [bx_old hc]; exact hB) hp
 have hbare := bare_ab (.mk k t i ty ns ks) c d (p + 1)
 simp only [exV, ExT.kind, ExT.text, ExT.int, ExT.type, ExT.names, ExT.kids] at hbare ⊢
 refine AFn.body Tryz.func47 rfl (by kernel_rfl) ?_
 refine ARun.go 100 ?_
 simp only [Tryz.f47, WO, seval, hn, hi]
 refine callS_fn (many_ab k _ _) ?_
 rintro _ _ ⟨rfl, rfl⟩
 refine ARun.go 100 ?_
 simp only [WO, seval, hn, hi, hmo]
 refine condS_of (fun h15 => ?_) (fun h15 => ?_)
 all_goals
  have hmost : mostS k = if k = 15 then 30000 else 40 := rfl
  simp only [WO, seval, h15, hn, hi, hmo]
  refine callS_fn hpart ?_
  rintro _ _ ⟨rfl, rfl⟩
  first
   | have hm : mostS k = 30000 := if_pos (of_decide_eq_true h15)
   | have hm : mostS k = 40 := if_neg (of_decide_eq_false h15)
  cases hk : partOk d p
  ·rw [if_pos hk] at hS
   refine ARun.go 200 ?_
   simp only [WO, seval, hn, hi, hmo, hw, hk]
   refine ARun.ret Tryz.func47 rfl (Left.set (by rfl) ?_)
   rw [hS]
   exact ⟨rfl, rfl⟩
  ·rw [if_neg (by rw [hk]; decide), hm] at hS
   have hpo := partOk_in hk
   have hbare := hbare (B.set c [.d (.int .i64 (p + 1))] ++ [[.d (.int .i64 k), .d (.str t), .d (.int .u64 i), .d (.int .i64 ty.kind), .d (.str ty.name), .d (.sl (ty.elem.map tyD)), .d (.sl (ssD ns)), .d (.sl (ks.map exD))]]) T (by rw [bx_old (by simp; omega)]; exact bx_get hc) ⟨by omega, by omega⟩ ⟨by omega, by omega⟩
   have hbo := bareS_ok (.mk k t i ty ns ks) d (p + 1) hpo.1
   obtain ⟨⟨bb, bq⟩, hb⟩ : ∃ r, bareS (.mk k t i ty ns ks) d (p + 1) = r := ⟨_, rfl⟩
   rw [hb] at hbare hS hbo
   dsimp only at hbo
   refine ARun.go 200 ?_
   simp only [WO, seval, hn, hi, hmo, hw, hk]
   repeat' ((first | refine guardB_of (fun h => ?_) (fun h => ?_) | refine condS_of (fun h => ?_) (fun h => ?_)) <;> simp only [WO, seval, h, hn, hi, hmo, hw])
   all_goals first
    | (refine ARun.ret Tryz.func47 rfl (Left.set (by rfl) ?_)
       rw [hS]
       clear hS hbare
       (try clear ih)
       (try simp only [dnw] at *)
       simp only [fnw, seval, Same] <;> simp [*]
       skip)
    | (rw [if_neg (by (simp only [decide_eq_true_eq, decide_eq_false_iff_not, Bool.not_eq_false', Bool.not_eq_true'] at *); omega)] at hS
       refine callS_fn hbare ?_
       rintro _ _ ⟨rfl, rfl⟩
       refine ARun.go 200 ?_
       simp only [WO, seval, hn, hi, hmo, hw]
       cases bb
       ·simp only [WO, seval, hn, hi, hmo, hw]
        refine ARun.ret Tryz.func47 rfl (Left.set (by rfl) ?_)
        rw [hS, if_pos rfl]
        exact ⟨rfl, rfl⟩
       ·have hbo := hbo rfl
        simp only [WO, seval, hn, hi, hmo, hw]
        refine callS_fn (exprs_ab ks hx c (d + 1) _ bq _ T (by rw [bx_old (by simp; omega)]; exact bx_get hc) (by omega) (by omega)) ?_
        rintro _ _ ⟨rfl, rfl⟩
        refine ARun.go 200 ?_
        simp only [WO, seval, hn, hi, hmo, hw]
        refine ARun.ret Tryz.func47 rfl (Left.set (by rfl) ?_)
        rw [hS, if_neg (by simp)]
        refine ⟨?_, rfl⟩
        have hlen : ∀ m : Int, decide (m < (ks.length : Int)) = false → decide ((ks.length : Int) ≤ m) = true := fun m h => decide_eq_true (by have := of_decide_eq_false h; omega)
        have hl1 := hlen _ (by assumption)
        show V.d (D.bool ((exsS ks (d + 1) bq).1 && decide _)) = _
        rw [hl1, Bool.and_true])
mutual
theorem expr_ab : ∀ x : ExT, ExprOk x
 | .mk k t i ty ns ks => expr_step k t i ty ns ks (expr_all ks)
theorem expr_all : ∀ (ks : List ExT), ∀ x ∈ ks, ExprOk x
 | [], _, h => absurd h List.not_mem_nil
 | y :: l, x, h => by
  rcases List.mem_cons.1 h with e | e
  ·rw [e]; exact expr_ab y
  ·exact expr_all l x e
end
def c95 := by
 have c := KK_of Tryz.f95 (by conv => lhs; cbv)
 dsimp only [KK, KxP, doO, opO, List.map_cons, List.map_nil, List.toList_toArray] at c
 exact c
theorem b95 : FnIs Tryz.prog 95 Tryz.f95 10 := ⟨Tryz.func95, by kernel_rfl⟩
def c68 := by
 have c := KK_of Tryz.f68 (by conv => lhs; cbv)
 dsimp only [KK, KxP, doO, opO, List.map_cons, List.map_nil, List.toList_toArray] at c
 exact c
theorem b68 : FnIs Tryz.prog 68 Tryz.f68 11 := ⟨Tryz.func68, by kernel_rfl⟩
def c122 := by
 have c := KK_of Tryz.f122 (by conv => lhs; cbv)
 dsimp only [KK, KxP, doO, opO, List.map_cons, List.map_nil, List.toList_toArray] at c
 exact c
theorem b122 : FnIs Tryz.prog 122 Tryz.f122 9 := ⟨Tryz.func122, by kernel_rfl⟩
def StmtOk (n : Nat) (s : StT) : Prop := ∀ (c : Nat) (d p : Int) (B : List (List V)) (T : List (Nat × Nat)), B[c]? = some [.d (.int .i64 p)] → 0 ≤ p ∧ p ≤ 60000 → 0 ≤ d ∧ d ≤ 62 →
 AFn Tryz.prog TabI 96 [.ptr c 0, stV s, .d (.int .i64 d)] ⟨B, T⟩ (Same (.d (.bool (stS n s d p).1)) ⟨B.set c [.d (.int .i64 (stS n s d p).2)], T⟩)
set_option maxHeartbeats 1000000 in
theorem stmts1_ab (n : Nat) (x : StT) (h : StmtOk n x) (a b c : Nat) (d p : Int) (B : List (List V)) (T : List (Nat × Nat)) (hB : B[c]? = some [.d (.int .i64 p)]) (ha : B[a]? = some [.ptr c 0]) (hb : B[b]? = some [.d (.int .i64 d)]) (hp : 0 ≤ p ∧ p ≤ 60000) (hd : 0 ≤ d ∧ d ≤ 62) :
 AFn Tryz.prog TabI 95 [stV x, .ptr a 0, .ptr b 0] ⟨B, T⟩ (Same (.d (.bool (!(stS n x d p).1))) ⟨B.set c [.d (.int .i64 (stS n x d p).2)], T⟩) := by
 obtain ⟨N, hn⟩ : ∃ N, B.length = N := ⟨_, rfl⟩
 have hc := (List.getElem?_eq_some_iff.1 hB).1
 have hi : c < N := by omega
 have hia : a < N := by have := (List.getElem?_eq_some_iff.1 ha).1; omega
 have hib : b < N := by have := (List.getElem?_eq_some_iff.1 hb).1; omega
 have h := h c d p (B ++ [stB x]) T (by rw [bx_old hc]; exact hB) hp hd
 unfold stV at h ⊢
 simp only [stB] at h
 refine b95.go 100 rfl fun hsm => ?_
 simp only [smw] at hsm
 simp only [W, seval, c95, hn, hi, hia, hib, ha, hb]
 refine callS_fn (h) ?_
 rintro _ _ ⟨rfl, rfl⟩
 refine ARun.go 100 ?_
 simp only [W, seval, c95, hn, hi, hia, hib, ha, hb]
 refine ARun.ret Tryz.func95 rfl (Left.set (by rfl) ?_)
 (try clear ih)
 (try simp only [dnw] at *)
 simp only [fnw, seval, Same] <;> simp [*]
 skip
theorem anyF_row {α : Type} (g : α → Int → Bool × Int) : ∀ (l : List α) (p : Int), anyF (fun x q => (!(g x q).1, (g x q).2)) l p = (!(rowS g l p).1, (rowS g l p).2)
 | [], p => rfl
 | x :: l, p => by
  rw [anyF]
  show _ = (!(andS (g x) (rowS g l) p).1, (andS (g x) (rowS g l) p).2)
  unfold andS
  cases h : (g x p).1
  ·simp
  ·simp [anyF_row g l]
theorem st_good (n : Nat) (a b c : Nat) (d : Int) (B X : List (List V)) (T : List (Nat × Nat)) (hd : 0 ≤ d ∧ d ≤ 62) (hc : c < B.length) (ha : ∀ q : Int, (B.set c [.d (.int .i64 q)] ++ X)[a]? = some [.ptr c 0]) (hb : ∀ q : Int, (B.set c [.d (.int .i64 q)] ++ X)[b]? = some [.d (.int .i64 d)]) :
 ∀ (l : List StT) (q : Int), (∀ x ∈ l, StmtOk n x) → 0 ≤ q ∧ q ≤ 60000 → Good Tryz.prog TabI 95 [] [.ptr a 0, .ptr b 0] stV (fun q : Int => ⟨B.set c [.d (.int .i64 q)] ++ X, T⟩) (fun x q => (!(stS n x d q).1, (stS n x d q).2)) l q
 | [], _, _, _ => trivial
 | x :: l, q, hl, hq => by
  have hx := hl x List.mem_cons_self
  have hcx : c < (B.set c [.d (.int .i64 q)]).length := by simpa using hc
  refine ⟨?_, fun h => ?_⟩
  ·have := stmts1_ab n x hx a b c d q (B.set c [.d (.int .i64 q)] ++ X) T (by rw [bx_old hcx]; exact bx_get hc) (ha q) (hb q) hq hd
   rw [bx_set_old hcx, List.set_set] at this
   exact this
  ·have h : (stS n x d q).1 = true := by simpa using h
   have h1 := (Cnts.st n x d).up q h
   have h2 := Bnds.st n x d q hq.2 h
   exact st_good n a b c d B X T hd hc ha hb l _ (fun y hy => hl y (List.mem_cons_of_mem _ hy)) ⟨Int.le_trans hq.1 h1, h2⟩
set_option maxHeartbeats 1000000 in
theorem stmts_ab (n : Nat) (l : List StT) (hl : ∀ x ∈ l, StmtOk n x) (c : Nat) (d p : Int) (B : List (List V)) (T : List (Nat × Nat)) (hB : B[c]? = some [.d (.int .i64 p)]) (hp : 0 ≤ p ∧ p ≤ 60000) (hd : 0 ≤ d ∧ d ≤ 62) :
 AFn Tryz.prog TabI 68 [.ptr c 0, .d (.sl (l.map stD)), .d (.int .i64 d)] ⟨B, T⟩ (Same (.d (.bool (rowS (fun s => stS n s d) l p).1)) ⟨B.set c [.d (.int .i64 (rowS (fun s => stS n s d) l p).2)], T⟩) := by
 obtain ⟨N, hn⟩ : ∃ N, B.length = N := ⟨_, rfl⟩
 have hc := (List.getElem?_eq_some_iff.1 hB).1
 have hi : c < N := by omega
 have hbs : B.set c [.d (.int .i64 p)] = B := by
  obtain ⟨_, h⟩ := List.getElem?_eq_some_iff.1 hB
  rw [← h, List.set_getElem_self]
 refine b68.go 100 rfl fun hsm => ?_
 simp only [smw] at hsm
 simp only [W, seval, c68, hn, hi]
 have hg := st_good n N (N + 1) c d B [[.ptr c 0], [.d (.int .i64 d)]] T hd hc (fun q => by rw [bx_loc0 (by simpa using hn)]; rfl) (fun q => by rw [bx_loc (by simpa using hn)]; rfl) l p hl hp
 have hcf := containsFunc_Stmt 95 [] [.ptr N 0, .ptr (N + 1) 0] (fun q : Int => ⟨B.set c [.d (.int .i64 q)] ++ [[.ptr c 0], [.d (.int .i64 d)]], T⟩) (fun x q => (!(stS n x d q).1, (stS n x d q).2)) (fun _ _ => ⟨by simp, rfl⟩) l (by first | exact hsm | exact hsm.1) p hg
 rw [anyF_row (fun x => stS n x d), hbs] at hcf
 refine callS_fn hcf ?_
 rintro _ _ ⟨rfl, rfl⟩
 refine ARun.go 100 ?_
 simp only [W, seval, c68, hn, hi, Bool.not_not]
 refine ARun.ret Tryz.func68 rfl (Left.set (by rfl) ?_)
 (try clear ih)
 (try simp only [dnw] at *)
 simp only [fnw, seval, Same] <;> simp [*]
 skip
set_option maxHeartbeats 1000000 in
theorem stmt1_ab (x y : CaT) (b : Nat) (bv : V) (B : List (List V)) (T : List (Nat × Nat)) (hb : B[b]? = some [.d (.int .u64 x.int), bv]) :
 AFn Tryz.prog TabI 122 [caV y, .ptr b 0] ⟨B, T⟩ (Same (.d (.bool (decide (y.int = x.int)))) ⟨B, T⟩) := by
 obtain ⟨N, hn⟩ : ∃ N, B.length = N := ⟨_, rfl⟩
 have hib : b < N := by have := (List.getElem?_eq_some_iff.1 hb).1; omega
 unfold caV
 refine b122.go 100 rfl fun hsm => ?_
 simp only [smw] at hsm
 simp only [W, seval, c122, hn, hib, hb]
 refine ARun.ret Tryz.func122 rfl (Left.box ?_)
 (try clear ih)
 (try simp only [dnw] at *)
 simp only [fnw, seval, Same] <;> simp [*]
 skip
theorem case_seen (x : CaT) : ∀ l : List CaT, l.any (fun y => decide (y.int = x.int)) = (l.map CaT.int).contains x.int
 | [] => rfl
 | y :: l => by
  rw [List.any_cons, case_seen x l, List.map_cons, List.contains_cons]
  congr 1
  rw [Bool.eq_iff_iff, decide_eq_true_iff, beq_iff_eq]
  exact eq_comm
def c96 := by
 have c := KK_of Tryz.f96 (by conv => lhs; cbv)
 dsimp only [KK, KxP, doO, opO, List.map_cons, List.map_nil, List.toList_toArray] at c
 exact c
theorem b96 : FnIs Tryz.prog 96 Tryz.f96 97 := ⟨Tryz.func96, by kernel_rfl⟩
theorem andS_no {f g : Int → Bool × Int} {p : Int} (h : (f p).1 = false) : andS f g p = (false, (f p).2) := if_pos h
theorem andS_yes {f g : Int → Bool × Int} {p : Int} (h : (f p).1 = true) : andS f g p = g (f p).2 := if_neg (by rw [h]; simp)
theorem andS_assoc (f g k : Int → Bool × Int) (p : Int) : andS (andS f g) k p = andS f (andS g k) p := by
 cases h : (f p).1
 ·have e : andS f g p = (false, (f p).2) := andS_no h
  rw [andS_no h, andS_no (by rw [e]), e]
 ·have e : andS f g p = g (f p).2 := andS_yes h
  rw [andS_yes h]
  unfold andS at e ⊢
  rw [e]
def lastS (n : Nat) (s : StT) (d : Int) : Int → Bool × Int := andS (exs40 s.lefts (d + 1)) (andS (exs40 s.exprs (d + 1)) (andS (rowS (fun x => stS n x (d + 1)) s.body) (rowS (fun x => stS n x (d + 1)) s.els)))
theorem stS_eq (n : Nat) (s : StT) (d p : Int) : stS (n + 1) s d p = andS (partS d) (andS (allowS (sizedS s && decide (s.cases.length ≤ 40))) (andS (if s.kind = 1 then fun p => tyS identS s.type (d + 1) p else allowS true) (andS (casS (stS n) d [] s.cases) (lastS n s d)))) p := rfl
theorem casS_cons (R : StT → Int → Int → Bool × Int) (d : Int) (seen : List Int) (k : CaT) (l : List CaT) : casS R d seen (k :: l) = andS (partS (d + 1)) (andS (allowS (!seen.contains k.int)) (andS (rowS (fun s => R s (d + 2)) k.body) (casS R d (seen ++ [k.int]) l))) := rfl
theorem app2 {α : Type} (A : List α) (a b : α) : A ++ [a, b] = (A ++ [a]) ++ [b] := by simp
theorem exs40_eq (l : List ExT) (d p : Int) : exs40 l d p = ((exsS l d p).1 && decide ((l.length : Int) ≤ 40), (exsS l d p).2) := by
 have e : decide ((l.length : Int) ≤ 40) = decide (l.length ≤ 40) := decide_eq_decide.2 (by omega)
 rw [e]
 unfold exs40
 cases h : (exsS l d p).1
 ·rw [andS_no h, Bool.false_and]
 ·rw [andS_yes h, Bool.true_and]
  rfl
set_option maxHeartbeats 8000000 in
theorem stmt_step (n : Nat) (s : StT) (hsb : ∀ x ∈ s.body, StmtOk n x) (hse : ∀ x ∈ s.els, StmtOk n x) (hsc : ∀ k ∈ s.cases, ∀ x ∈ k.body, StmtOk n x) : StmtOk (n + 1) s := by
 intro c d p B T hB hp hd
 obtain ⟨N, hn⟩ : ∃ N, B.length = N := ⟨_, rfl⟩
 have hc := (List.getElem?_eq_some_iff.1 hB).1
 have hi : c < N := by omega
 have hi1 : c < N + 1 := by omega
 have hN1 : N < N + 1 := by omega
 have hw1 := wrap_in (d + 1) (by omega)
 have hw2 := wrap_in (d + 2) (by omega)
 generalize hres : stS (n + 1) s d p = res
 rw [stS_eq] at hres
 have hpart := part_ab c d p (B ++ [stB s]) T (by rw [bx_old hc]; exact hB) hp
 have hsz := fun q : Int => sized_ab s (B.set c [.d (.int .i64 q)] ++ [stB s]) T
 unfold stV at hsz ⊢
 simp only [stB] at hpart hsz
 refine b96.go 6 rfl fun hsm => ?_
 simp only [smw] at hsm
 simp only [W, seval, c96, hn, hi]
 refine ARun.join (fun _ : Unit => (envS 97 [(0, .ptr c 0), (2, .d (.int .i64 d)), (4, .ptr N 0)], ⟨B.set c [.d (.int .i64 (p + 1))] ++ [stB s], T⟩)) (fun _ => partOk d p = true ∧ sizedS s = true ∧ s.cases.length ≤ 40) ?_ ?_
 rotate_left
 ·intro K' hK
  refine ARun.goJ 200 ?_
  simp only [W, seval, c96, hn, hi]
  refine callS_fn hpart ?_
  rintro _ _ ⟨rfl, rfl⟩
  refine ARun.goK 200 ?_
  simp only [W, seval, c96, hn, hi]
  cases hk : partOk d p
  ·rw [andS_no (show (partS d p).1 = false from hk)] at hres
   simp only [W, seval, c96, hk, hn, hi]
   refine ARun.ret Tryz.func96 rfl (Left.set (by rfl) ?_)
   rw [← hres]
   (try clear ih)
   (try simp only [dnw] at *)
   simp only [fnw, seval, Same] <;> simp [*]
   rfl
  ·have hpo := partOk_in hk
   rw [andS_yes (show (partS d p).1 = true from hk)] at hres
   simp only [W, seval, c96, hk, hn, hi]
   refine callS_fn (hsz (p + 1)) ?_
   rintro _ _ ⟨rfl, rfl⟩
   refine ARun.goK 200 ?_
   simp only [W, seval, c96, hn, hi]
   cases hz : sizedS s
   ·rw [andS_no (by rw [hz]; rfl)] at hres
    simp only [W, seval, c96, hk, hn, hi]
    refine ARun.ret Tryz.func96 rfl (Left.set (by rfl) ?_)
    rw [← hres]
    (try clear ih)
    (try simp only [dnw] at *)
    simp only [fnw, seval, Same] <;> simp [*]
    rfl
   ·simp only [W, seval, c96, hk, hn, hi]
    refine condS_of (fun h40 => ?_) (fun h40 => ?_)
    ·rw [andS_no (by rw [hz, decide_eq_false (by have := of_decide_eq_true h40; omega)]; rfl)] at hres
     simp only [W, seval, c96, hk, hn, hi]
     refine ARun.ret Tryz.func96 rfl (Left.set (by rfl) ?_)
     rw [← hres]
     (try clear ih)
     (try simp only [dnw] at *)
     simp only [fnw, seval, Same] <;> simp [*]
     rfl
    ·simp only [W, seval, c96, hk, hn, hi]
     refine hK () ⟨hk, hz, by have := of_decide_eq_false h40; omega⟩ _ _ ?_ rfl
     refine Agree.env _ ?_
     simp only [agw, seval, hn]
 ·rintro ⟨⟩ ⟨hk, hz, hcl⟩
  have hpo := partOk_in hk
  rw [andS_yes (show (partS d p).1 = true from hk), andS_yes (by simp [allowS, hz, hcl])] at hres
  change andS _ _ (p + 1) = res at hres
  clear hpart hsz
  dsimp only [stB]
  refine ARun.go 1 ?_
  simp only [W, seval, c96]
  refine ARun.join (fun q : Int => (envS 97 [(0, .ptr c 0), (2, .d (.int .i64 d)), (4, .ptr N 0)], ⟨B.set c [.d (.int .i64 q)] ++ [stB s], T⟩)) (fun q => (0 ≤ q ∧ q ≤ 60000) ∧ andS (casS (stS n) d [] s.cases) (lastS n s d) q = res) ?_ ?_
  rotate_left
  ·intro K' hK
   by_cases k1 : s.kind = 1
   ·rw [if_pos k1] at hres
    have e1 := decide_eq_true k1
    refine ARun.goJ 200 ?_
    simp only [W, seval, c96, hn, hi, hw1, e1]
    refine callS_fn (typ_ab s.type c (d + 1) (p + 1) _ T (by rw [bx_old (by simp; omega)]; exact bx_get hc) ⟨by omega, by omega⟩ ⟨by omega, by omega⟩) ?_
    rintro _ _ ⟨rfl, rfl⟩
    have hok := tyS_ok identS s.type (d + 1) (p + 1)
    obtain ⟨⟨b, q⟩, hty⟩ : ∃ r, tyS identS s.type (d + 1) (p + 1) = r := ⟨_, rfl⟩
    rw [hty] at hok
    refine ARun.goK 200 ?_
    simp only [W, seval, c96, hn, hi, hty]
    cases b
    ·rw [andS_no (by rw [hty]), hty] at hres
     simp only [W, seval, c96, hn, hi]
     refine ARun.ret Tryz.func96 rfl (Left.set (by rfl) ?_)
     rw [← hres]
     (try clear ih)
     (try simp only [dnw] at *)
     simp only [fnw, seval, Same] <;> simp [*]
     skip
    ·rw [andS_yes (by rw [hty]), hty] at hres
     have hok := hok rfl
     simp only [W, seval, c96, hn, hi]
     refine hK q ⟨⟨by omega, hok.2⟩, hres⟩ _ _ ?_ rfl
     refine Agree.env _ ?_
     simp only [agw, seval, hn]
   ·rw [if_neg k1, andS_yes rfl] at hres
    have e1 := decide_eq_false k1
    refine ARun.goJ 200 ?_
    simp only [W, seval, c96, hn, hi, hw1, e1]
    refine hK (p + 1) ⟨⟨by omega, hpo.1⟩, hres⟩ _ _ ?_ rfl
    refine Agree.env _ ?_
    simp only [agw, seval, hn]
  ·rintro q ⟨hq, hres2⟩
   clear hres
   dsimp only [stB]
   refine ARun.go 20 ?_
   simp only [W, seval, c96, hn, hi]
   refine ARun.fits fun hf => ?_
   have hf2 : ∀ q' : Int, Fits ⟨B.set c [.d (.int .i64 q')] ++ [[.d (.int .i64 s.kind), .d (.sl (ssD s.names)), .d (.int .i64 s.type.kind), .d (.str s.type.name), .d (.sl (s.type.elem.map tyD)), .d (.sl (s.lefts.map exD)), .d (.sl (s.exprs.map exD)), .d (.sl (s.body.map stD)), .d (.sl (s.els.map stD)), .d (.sl (s.cases.map caD))]], T⟩ := fun q' => by
    have := hf.set (i := c) (vs := [.d (.int .i64 q')]) rfl
    rwa [bx_set_old (by simp; omega), List.set_set] at this
   refine ARun.small fun hsm2 => ?_
   have hcl2 : (s.cases.length : Int) ≤ 40 := by omega
   clear hsm2
   refine ARun.loopB (fun a : Nat × Int => (envS 97 [(0, .ptr c 0), (2, .d (.int .i64 d)), (4, .ptr N 0), (37, .d (.sl (s.cases.map caD))), (38, .d (.int .i64 s.cases.length)), (39, .d (.int .i64 a.1))], ⟨B.set c [.d (.int .i64 a.2)] ++ [[.d (.int .i64 s.kind), .d (.sl (ssD s.names)), .d (.int .i64 s.type.kind), .d (.str s.type.name), .d (.sl (s.type.elem.map tyD)), .d (.sl (s.lefts.map exD)), .d (.sl (s.exprs.map exD)), .d (.sl (s.body.map stD)), .d (.sl (s.els.map stD)), .d (.sl (s.cases.map caD))]], T⟩)) (fun a => a.1 ≤ s.cases.length ∧ (0 ≤ a.2 ∧ a.2 ≤ 60000) ∧ andS (casS (stS n) d ((s.cases.take a.1).map CaT.int) (s.cases.drop a.1)) (lastS n s d) a.2 = res) (fun a => s.cases.length - a.1) (0, q) ⟨by omega, hq, hres2⟩ ?_ rfl ?_
   ·skip
    refine Agree.env _ ?_
    simp only [agw, seval, hn]
   rintro ⟨i, r⟩ ⟨h1, h2, h3⟩ ih
   dsimp only at h1 h2 h3 ih ⊢
   by_cases hlt : i < s.cases.length
   ·have hw := wrap_in ((i : Int) + 1) (by omega)
    have hg := List.getElem?_eq_getElem hlt
    have hlt' : decide ((i : Int) < (s.cases.length : Int)) = true := decide_eq_true (by omega)
    have hle : (i : Int) ≤ (s.cases.length : Int) := by omega
    have hle' : decide ((i : Int) ≤ (s.cases.length : Int)) = true := decide_eq_true hle
    rw [drop_get hlt, casS_cons, andS_assoc] at h3
    obtain ⟨x, hx⟩ : ∃ x, s.cases[i] = x := ⟨_, rfl⟩
    rw [hx] at hg h3
    have hmt : (s.cases.map caD).take i = (s.cases.take i).map caD := (List.map_take).symm
    have hpart := part_ab c (d + 1) r
    refine ARun.go 200 ?_
    simp only [W, seval, c96, hn, hi, hw1, List.getElem?_map, hg, hlt', caD_eq]
    refine callS_fn (hpart _ T (by rw [bx_old (by simp; omega)]; exact bx_get hc) h2) ?_
    rintro _ _ ⟨rfl, rfl⟩
    refine ARun.go 200 ?_
    simp only [W, seval, c96, hn, hi, hw1]
    cases hk2 : partOk (d + 1) r
    ·rw [andS_no (show (partS (d + 1) r).1 = false from hk2)] at h3
     simp only [W, seval, c96, hn, hi, hk2]
     refine ARun.ret Tryz.func96 rfl (Left.set (by rfl) ?_)
     rw [← h3]
     (try clear ih)
     (try simp only [dnw] at *)
     simp only [fnw, seval, Same] <;> simp [*]
     rfl
    ·have hpo2 := partOk_in hk2
     rw [andS_yes (show (partS (d + 1) r).1 = true from hk2), andS_assoc] at h3
     change andS _ _ (r + 1) = res at h3
     simp only [W, seval, c96, hn, hi, hk2, hle, hle', hmt]
     have hcf := fun S => containsFunc_Case 122 [] [.ptr (N + 1) 0] (fun _ : Unit => S) (fun y s => (decide (y.int = x.int), s)) (fun _ _ => ⟨rfl, rfl⟩) (s.cases.take i) (by simp; omega) ()
     refine callS_fn (hcf _ (good_of (s.cases.take i) fun y _ => stmt1_ab x y (N + 1) _ _ T (by rw [bx_loc (by simpa using hn)]; rfl))) ?_
     rintro _ _ ⟨rfl, rfl⟩
     rw [anyF_unit, case_seen]
     refine ARun.go 200 ?_
     simp only [W, seval, c96, hn, hi, hw2]
     cases hcs : ((s.cases.take i).map CaT.int).contains x.int
     ·rw [andS_yes (by rw [hcs]; rfl), andS_assoc] at h3
      change andS _ _ (r + 1) = res at h3
      simp only [W, seval, c96, hn, hi, hcs, hw2]
      refine callS_fn (stmts_ab n x.body (hsc x (by rw [← hx]; exact List.getElem_mem hlt)) c (d + 2) (r + 1) _ T (by rw [bx_old (by simp; omega)]; exact bx_get hc) ⟨by omega, hpo2.1⟩ ⟨by omega, by omega⟩) ?_
      rintro _ _ ⟨rfl, rfl⟩
      have hup := (Cnts.row (f := fun s => stS n s (d + 2)) (c := stC n) x.body fun y _ => Cnts.st n y (d + 2)).up (r + 1)
      have hbn := Bnds.row (f := fun s => stS n s (d + 2)) (fun y => Bnds.st n y (d + 2)) x.body (r + 1) hpo2.1
      obtain ⟨⟨b, q2⟩, hrow⟩ : ∃ z, rowS (fun s => stS n s (d + 2)) x.body (r + 1) = z := ⟨_, rfl⟩
      rw [hrow] at hup hbn
      refine ARun.go 200 ?_
      simp only [W, seval, c96, hn, hi, hrow]
      cases b
      ·rw [andS_no (by rw [hrow]), hrow] at h3
       simp only [W, seval, c96, hn, hi]
       refine ARun.ret Tryz.func96 rfl (Left.set (by rfl) ?_)
       rw [← h3]
       (try clear ih)
       (try simp only [dnw] at *)
       simp only [fnw, seval, Same] <;> simp [*]
       skip
      ·rw [andS_yes (by rw [hrow]), hrow] at h3
       have hup := hup rfl
       have hbn := hbn rfl
       simp only [W, seval, c96, hn, hi, hw]
       have hstep : (s.cases.take (i + 1)).map CaT.int = (s.cases.take i).map CaT.int ++ [x.int] := by
        rw [List.take_succ_eq_append_getElem hlt, List.map_append, hx]
        rfl
       rw [app2]
       refine ih (i + 1, q2) ⟨hlt, ⟨by dsimp only; omega, hbn⟩, ?_⟩ (by dsimp only; omega) _ _ _ _ rfl ⟨by simp; omega, Nat.le_refl _⟩ (hf2 q2) ?_
       ·dsimp only
        rw [hstep]
        exact h3
       ·skip
        refine AgreeF.env _ ?_
        simp only [agf, seval, hn, List.length_append, List.length_cons, List.length_nil, Nat.zero_add, hi1, hN1]
     ·rw [andS_no (by rw [hcs]; rfl)] at h3
      simp only [W, seval, c96, hn, hi, hcs]
      refine ARun.ret Tryz.func96 rfl (Left.set (by rfl) ?_)
      rw [← h3]
      (try clear ih)
      (try simp only [dnw] at *)
      simp only [fnw, seval, Same] <;> simp [*]
      rfl
   ·have hlt' : decide ((i : Int) < (s.cases.length : Int)) = false := decide_eq_false (by omega)
    rw [List.drop_eq_nil_of_le (by omega), andS_yes rfl] at h3
    change lastS n s d r = res at h3
    unfold lastS at h3
    refine ARun.go 200 ?_
    simp only [W, seval, c96, hn, hi, hlt', hw1]
    refine callS_fn (exprs_ab s.lefts (fun x _ => expr_ab x) c (d + 1) 40 r _ T (by rw [bx_old (by simp; omega)]; exact bx_get hc) h2 ⟨by omega, by omega⟩) ?_
    rintro _ _ ⟨rfl, rfl⟩
    have hup := (Cnts.exs40 s.lefts (d + 1)).up r
    have hbn := Bnds.exs40 s.lefts (d + 1) r h2.2
    have he := exs40_eq s.lefts (d + 1) r
    obtain ⟨⟨b1, q1⟩, hq1⟩ : ∃ z, exs40 s.lefts (d + 1) r = z := ⟨_, rfl⟩
    rw [hq1] at hup hbn he
    obtain ⟨he1, he2⟩ := Prod.mk.inj he
    rw [← he1, ← he2]
    clear he he1 he2
    refine ARun.go 200 ?_
    simp only [W, seval, c96, hn, hi, hw1]
    cases b1
    ·rw [andS_no (by rw [hq1]), hq1] at h3
     simp only [W, seval, c96, hn, hi, hw1]
     refine ARun.ret Tryz.func96 rfl (Left.set (by rfl) ?_)
     rw [← h3]
     (try clear ih)
     (try simp only [dnw] at *)
     simp only [fnw, seval, Same] <;> simp [*]
     skip
    rw [andS_yes (by rw [hq1]), hq1] at h3
    dsimp only at h3
    have hup1 := hup rfl
    have hbn1 := hbn rfl
    dsimp only at hup1 hbn1
    simp only [W, seval, c96, hn, hi, hw1]
    refine callS_fn (exprs_ab s.exprs (fun x _ => expr_ab x) c (d + 1) 40 q1 _ T (by rw [bx_old (by simp; omega)]; exact bx_get hc) ⟨by omega, hbn1⟩ ⟨by omega, by omega⟩) ?_
    rintro _ _ ⟨rfl, rfl⟩
    have hup := (Cnts.exs40 s.exprs (d + 1)).up q1
    have hbn := Bnds.exs40 s.exprs (d + 1) q1 hbn1
    have he := exs40_eq s.exprs (d + 1) q1
    obtain ⟨⟨b2, q2⟩, hq2⟩ : ∃ z, exs40 s.exprs (d + 1) q1 = z := ⟨_, rfl⟩
    rw [hq2] at hup hbn he
    obtain ⟨he1, he2⟩ := Prod.mk.inj he
    rw [← he1, ← he2]
    clear he he1 he2
    refine ARun.go 200 ?_
    simp only [W, seval, c96, hn, hi, hw1]
    cases b2
    ·rw [andS_no (by rw [hq2]), hq2] at h3
     simp only [W, seval, c96, hn, hi, hw1]
     refine ARun.ret Tryz.func96 rfl (Left.set (by rfl) ?_)
     rw [← h3]
     (try clear ih)
     (try simp only [dnw] at *)
     simp only [fnw, seval, Same] <;> simp [*]
     skip
    rw [andS_yes (by rw [hq2]), hq2] at h3
    dsimp only at h3
    have hup2 := hup rfl
    have hbn2 := hbn rfl
    dsimp only at hup2 hbn2
    simp only [W, seval, c96, hn, hi, hw1]
    refine callS_fn (stmts_ab n s.body hsb c (d + 1) q2 _ T (by rw [bx_old (by simp; omega)]; exact bx_get hc) ⟨by omega, hbn2⟩ ⟨by omega, by omega⟩) ?_
    rintro _ _ ⟨rfl, rfl⟩
    have hup := (Cnts.row (f := fun s => stS n s (d + 1)) (c := stC n) s.body fun y _ => Cnts.st n y (d + 1)).up q2
    have hbn := Bnds.row (f := fun s => stS n s (d + 1)) (fun y => Bnds.st n y (d + 1)) s.body q2 hbn2
    obtain ⟨⟨b3, q3⟩, hq3⟩ : ∃ z, rowS (fun s => stS n s (d + 1)) s.body q2 = z := ⟨_, rfl⟩
    rw [hq3] at hup hbn
    refine ARun.go 200 ?_
    simp only [W, seval, c96, hn, hi, hw1, hq3]
    cases b3
    ·rw [andS_no (by rw [hq3]), hq3] at h3
     simp only [W, seval, c96, hn, hi, hw1]
     refine ARun.ret Tryz.func96 rfl (Left.set (by rfl) ?_)
     rw [← h3]
     (try clear ih)
     (try simp only [dnw] at *)
     simp only [fnw, seval, Same] <;> simp [*]
     skip
    rw [andS_yes (by rw [hq3]), hq3] at h3
    dsimp only at h3
    have hup3 := hup rfl
    have hbn3 := hbn rfl
    dsimp only at hup3 hbn3
    simp only [W, seval, c96, hn, hi, hw1]
    refine callS_fn (stmts_ab n s.els hse c (d + 1) q3 _ T (by rw [bx_old (by simp; omega)]; exact bx_get hc) ⟨by omega, hbn3⟩ ⟨by omega, by omega⟩) ?_
    rintro _ _ ⟨rfl, rfl⟩
    rw [h3]
    refine ARun.go 200 ?_
    simp only [W, seval, c96, hn, hi, hw1]
    refine ARun.ret Tryz.func96 rfl (Left.set (by rfl) ?_)
    (try clear ih)
    (try simp only [dnw] at *)
    simp only [fnw, seval, Same] <;> simp [*]
    skip
def Dp : Nat → StT → Prop
 | 0, _ => False
 | n + 1, s => (∀ x ∈ s.body, Dp n x) ∧ (∀ x ∈ s.els, Dp n x) ∧ ∀ k ∈ s.cases, ∀ x ∈ k.body, Dp n x
theorem stmt_ab : ∀ (n : Nat) (s : StT), Dp n s → StmtOk n s
 | 0, _, h => h.elim
 | n + 1, s, h => stmt_step n s (fun x hx => stmt_ab n x (h.1 x hx)) (fun x hx => stmt_ab n x (h.2.1 x hx)) (fun k hk x hx => stmt_ab n x (h.2.2 k hk x hx))
theorem Dp.of_size : ∀ (n : Nat) (s : StT), SizeOf.sizeOf s ≤ n → Dp n s
 | 0, s, h => by
  cases s with
  | mk k ns ty ls es b e cs => simp at h
 | n + 1, s, h => by
  cases s with
  | mk k ns ty ls es b e cs =>
   have h0 : 1 + SizeOf.sizeOf b + SizeOf.sizeOf e + SizeOf.sizeOf cs ≤ n + 1 := by
    simp only [StT.mk.sizeOf_spec] at h
    omega
   refine ⟨fun x hx => Dp.of_size n x ?_, fun x hx => Dp.of_size n x ?_, fun c hc x hx => Dp.of_size n x ?_⟩
   ·have := List.sizeOf_lt_of_mem (show x ∈ b from hx)
    omega
   ·have := List.sizeOf_lt_of_mem (show x ∈ e from hx)
    omega
   ·have h1 := List.sizeOf_lt_of_mem (show c ∈ cs from hc)
    have h2 := List.sizeOf_lt_of_mem hx
    have h3 : SizeOf.sizeOf c.body ≤ SizeOf.sizeOf c := by
     cases c with
     | mk i b => simp only [CaT.body, CaT.mk.sizeOf_spec]; omega
    omega
def c64 := by
 have c := KK_of Tryz.f64 (by conv => lhs; cbv)
 dsimp only [KK, KxP, doO, opO, List.map_cons, List.map_nil, List.toList_toArray] at c
 exact c
theorem b64 : FnIs Tryz.prog 64 Tryz.f64 40 := ⟨Tryz.func64, by kernel_rfl⟩
theorem mapD_nil : List.mapM toD [] = some [] := rfl
theorem mapD_cons (x : D) (l : List V) : List.mapM toD (.d x :: l) = (List.mapM toD l).map (x :: ·) := by
 rw [List.mapM_cons]
 show (some x).bind _ = _
 rw [Option.bind_some]
 cases List.mapM toD l <;> rfl
theorem vr_plain {c : Cx} {w : World} {rows : List (List D)} {tk : Tok} {v : Value} (h : VR c w (.sl rows tk) v) : VR c w (.d (.sl rows)) v := by
 cases h with
 | full _ a h ha => exact .d _ _ h
 | own _ t a cap i h ht hr hn hl => exact .d _ _ h
theorem sl_plain {P : Program} {I : Inv} {f : FuncId} {rows : List (List D)} {tk : Tok} {S : Mem} {R : V → Mem → Prop} (h : AFn P I f [.d (.sl rows)] S R) : AFn P I f [.sl rows tk] S R :=
 ⟨h.1, fun c w xs h1 h2 h3 hI => h.2 c w xs h1 (fun j hj => by
  have hj0 : j = 0 := by simpa using hj
  subst hj0
  exact vr_plain (h2 0 (by simp))) h3 hI⟩
theorem setAll0 {B : List (List V)} {T K : List (Nat × Nat)} {R : V → Mem → Prop} {v : V} {i : Nat} {vs : List V} (hf : vs.all (fit B.length T.length) = true) (h : R (wk B.length T.length v) ⟨B.set i vs, T⟩) : Ab.Left ⟨B, T⟩ R v ⟨B.set i vs, T ++ K⟩ := by
 have := Left.setAll (J := []) (K := K) hf h
 rwa [List.append_nil] at this
theorem pa_step (most : Nat) (l : List PaT) (p : Int) : paS most l p = andS (rowS (fun x : PaT => andS (partS 0) (fun p => tyS identS x.type 0 p)) l) (allowS (decide (l.length ≤ most) && diffS l.length (l.map PaT.name))) p := rfl
set_option maxHeartbeats 4000000 in
theorem params_ab (most : Nat) (_ : most ≤ 1000) (l : List PaT) (c : Nat) (p : Int) (B : List (List V)) (T : List (Nat × Nat)) (hB : B[c]? = some [.d (.int .i64 p)]) (hp : 0 ≤ p ∧ p ≤ 60000) :
 AFn Tryz.prog TabI 64 [.ptr c 0, .d (.sl (l.map paD)), .d (.int .i64 most)] ⟨B, T⟩ (Same (.d (.bool (paS most l p).1)) ⟨B.set c [.d (.int .i64 (paS most l p).2)], T⟩) := by
 obtain ⟨N, hn⟩ : ∃ N, B.length = N := ⟨_, rfl⟩
 obtain ⟨M, hM⟩ : ∃ M, T.length = M := ⟨_, rfl⟩
 have hc := (List.getElem?_eq_some_iff.1 hB).1
 have hi : c < N := by omega
 have hbs : B.set c [.d (.int .i64 p)] = B := by
  obtain ⟨_, h⟩ := List.getElem?_eq_some_iff.1 hB
  rw [← h, List.set_getElem_self]
 generalize hres : paS most l p = res
 rw [pa_step] at hres
 refine b64.go 14 rfl fun hsm => ?_
 simp only [smw] at hsm
 simp only [W, seval, c64, hn, hi]
 refine ARun.fits fun hf => ?_
 refine ARun.token 7 [] (by rfl) 1 (by omega) rfl ?_
 simp only [envS_put, hM]
 refine ARun.go 20 ?_
 simp only [W, seval, c64, hn, hi]
 refine ARun.loopB (fun a : Nat × Int => (envS 40 [(0, .ptr c 0), (1, .d (.sl (l.map paD))), (2, .d (.int .i64 most)), (6, .d (.bool false)), (7, .sl (ssD ((l.take a.1).map PaT.name)) (.own M)), (10, .d (.sl (l.map paD))), (11, .d (.int .i64 l.length)), (12, .d (.int .i64 a.1))], ⟨B.set c [.d (.int .i64 a.2)], T ++ [(a.1, 1)]⟩)) (fun a => a.1 ≤ l.length ∧ ((a.1 : Int) ≤ a.2 ∧ a.2 ≤ 60000) ∧ andS (rowS (fun x : PaT => andS (partS 0) (fun p => tyS identS x.type 0 p)) (l.drop a.1)) (allowS (decide (l.length ≤ most) && diffS l.length (l.map PaT.name))) a.2 = res) (fun a => l.length - a.1) (0, p) ⟨by omega, hp, hres⟩ ?_ (by rw [hbs]) ?_
 ·skip
  refine Agree.env _ ?_
  simp only [agw, seval, hn]
  trivial
 rintro ⟨i, q⟩ ⟨h1, h2, h3⟩ ih
 dsimp only at h1 h2 h3 ih ⊢
 by_cases hlt : i < l.length
 ·have hw := wrap_in ((i : Int) + 1) (by omega)
  have hlt' : decide ((i : Int) < (l.length : Int)) = true := decide_eq_true (by omega)
  have hg := List.getElem?_eq_getElem hlt
  have hmin : min i l.length = i := by omega
  have hcap : (i + 1) * 16 ≤ 140737488355328 := by omega
  have hss : ssD ((l.take i).map PaT.name) ++ [[.str l[i].name]] = ssD ((l.take (i + 1)).map PaT.name) := by
   rw [List.take_succ_eq_append_getElem hlt, List.map_append]
   simp [ssD]
  have hr1 : ∀ s : List UInt8, rowsSz 1 [[D.str s]] = true := fun _ => rfl
  have hM1 : M < M + 1 := by omega
  rw [drop_get hlt] at h3
  change andS (andS (andS (partS 0) (fun p => tyS identS l[i].type 0 p)) (rowS _ (l.drop (i + 1)))) _ q = res at h3
  rw [andS_assoc, andS_assoc] at h3
  refine ARun.go 100 ?_
  simp only [W, seval, c64, hn, hi, hM, List.getElem?_map, hg, hlt', paD, hmin, List.length_take, hcap, hss, mapD_nil, mapD_cons, Nat.reduceMul, hr1]
  refine callS_fn (part_ab c 0 q _ _ (by rw [bx_old (by simp; omega)]; exact bx_get hc) ⟨by omega, h2.2⟩) ?_
  rintro _ _ ⟨rfl, rfl⟩
  refine ARun.go 200 ?_
  simp only [W, seval, c64, hn, hi, hM]
  cases hk : partOk 0 q
  ·rw [andS_no (show (partS 0 q).1 = false from hk)] at h3
   simp only [W, seval, c64, hn, hi, hk]
   refine ARun.ret Tryz.func64 rfl (Left.setAll rfl ?_)
   rw [← h3]
   (try clear ih)
   (try simp only [dnw] at *)
   simp only [fnw, seval, Same] <;> simp [*]
   rfl
  ·have hpo := partOk_in hk
   rw [andS_yes (show (partS 0 q).1 = true from hk)] at h3
   change andS _ _ (q + 1) = res at h3
   simp only [W, seval, c64, hn, hi, hk]
   refine callS_fn (typ_ab l[i].type c 0 (q + 1) _ _ (by rw [bx_old (by simp; omega)]; exact bx_get hc) ⟨by omega, hpo.1⟩ ⟨by omega, by omega⟩) ?_
   rintro _ _ ⟨rfl, rfl⟩
   have hok := tyS_ok identS l[i].type 0 (q + 1)
   obtain ⟨⟨b, r⟩, hty⟩ : ∃ z, tyS identS l[i].type 0 (q + 1) = z := ⟨_, rfl⟩
   rw [hty] at hok
   refine ARun.go 200 ?_
   simp only [W, seval, c64, hn, hi, hM, hty]
   cases b
   ·rw [andS_no (by rw [hty]), hty] at h3
    simp only [W, seval, c64, hn, hi]
    refine ARun.ret Tryz.func64 rfl (Left.setAll rfl ?_)
    rw [← h3]
    (try clear ih)
    (try simp only [dnw] at *)
    simp only [fnw, seval, Same] <;> simp [*]
    skip
   ·rw [andS_yes (by rw [hty]), hty] at h3
    have hok := hok rfl
    dsimp only at hok h3
    simp only [W, seval, c64, hn, hi, hM, hw]
    refine ih (i + 1, r) ⟨hlt, ⟨by dsimp only; omega, hok.2⟩, h3⟩ (by dsimp only; omega) _ _ _ _ rfl ⟨by simp; omega, by simp; omega⟩ ?_ ?_
    ·have := Fits.more (X := []) (Y := [(i + 1, 1)]) (Fits.set hf (i := c) (vs := [.d (.int .i64 r)]) rfl) (fun vs hv => absurd hv List.not_mem_nil)
     rwa [List.append_nil] at this
    ·skip
     refine AgreeF.env _ ?_
     simp only [agf, seval, hn, hi, hM, List.length_append, List.length_cons, List.length_nil, Nat.zero_add, hM1]
 ·have hlt' : decide ((i : Int) < (l.length : Int)) = false := decide_eq_false (by omega)
  rw [List.drop_eq_nil_of_le (by omega), andS_yes rfl] at h3
  have hti : l.take i = l := List.take_of_length_le (by omega)
  have hmo : decide ((l.length : Int) ≤ (most : Int)) = decide (l.length ≤ most) := decide_eq_decide.2 (by omega)
  refine ARun.go 200 ?_
  simp only [W, seval, c64, hn, hi, hM, hlt', hti, hmo]
  cases hle : decide (l.length ≤ most)
  ·simp only [W, seval, c64, hn, hi, hM]
   refine ARun.ret Tryz.func64 rfl (setAll0 rfl ?_)
   rw [← h3, hle]
   (try clear ih)
   (try simp only [dnw] at *)
   simp only [fnw, seval, Same] <;> simp [*]
   exact ⟨rfl, rfl⟩
  ·simp only [W, seval, c64, hn, hi, hM]
   refine callS_fn (sl_plain (different_ab (l.map PaT.name) (by simp; have := of_decide_eq_true hle; omega) _ _)) ?_
   rintro _ _ ⟨rfl, rfl⟩
   refine ARun.go 200 ?_
   simp only [W, seval, c64, hn, hi, hM]
   refine ARun.ret Tryz.func64 rfl (setAll0 rfl ?_)
   rw [← h3, hle]
   (try clear ih)
   (try simp only [dnw] at *)
   simp only [fnw, seval, Same] <;> simp [*]
   exact ⟨rfl, rfl⟩
def c51 := by
 have c := KK_of Tryz.f51 (by conv => lhs; cbv)
 dsimp only [KK, KxP, doO, opO, List.map_cons, List.map_nil, List.toList_toArray] at c
 exact c
theorem b51 : FnIs Tryz.prog 51 Tryz.f51 45 := ⟨Tryz.func51, by kernel_rfl⟩
theorem mapD_sl (rows : List (List D)) (tk : Tok) (l : List V) : List.mapM toD (.sl rows tk :: l) = (List.mapM toD l).map (.sl rows :: ·) := by
 rw [List.mapM_cons]
 show (some (D.sl rows)).bind _ = _
 rw [Option.bind_some]
 cases List.mapM toD l <;> rfl
set_option maxHeartbeats 2000000 in
theorem typ_pp (bs : List UInt8) (h0 : True) (hl : bs.length ≤ 100000) (M : Nat) (s : Ps) (hM : mu s < M) : PP bs 51 [] s (tyV (typP M s).1) (typP M s).2 := by
 intro c B T i hc hok
 obtain ⟨N, hn⟩ : ∃ N, B.length = N := ⟨_, rfl⟩
 have hi : c < N := by omega
 have hi1 : c < N + 1 := by omega
 have hmu := hok.mu_le
 obtain ⟨⟨n, s2⟩, hup⟩ : ∃ r, upP M s = r := ⟨_, rfl⟩
 unfold typP
 rw [hup]
 dsimp only
 refine b51.go 30 rfl fun hsm => ?_
 simp only [smw] at hsm
 simp only [W, seval, c51, hn, hi]
 refine ARun.loopW (fun a : Nat × Ps => (envS 45 [(0, .ptr c 0), (2, .ptr N 0), (3, .d (.int .i64 a.1))], ⟨B.set c (bxP bs a.2) ++ [[.d (.int .i64 0), .d (.str []), .sl [] .full]], T⟩)) (fun a => OkP bs a.2 ∧ a.1 + mu a.2 ≤ mu s ∧ ∃ m, mu a.2 < m ∧ (a.1 + (upP m a.2).1, (upP m a.2).2) = (n, s2)) (fun a => mu a.2) (0, s) ⟨hok, by dsimp only; omega, M, hM, by dsimp only; rw [hup, Nat.zero_add]⟩ ?_ rfl ?_
 ·skip
  refine Agree.env _ ?_
  simp only [agw, seval, hn]
 rintro ⟨k, s1⟩ ⟨hok1, hle, m, hm, hr⟩ ih
 dsimp only at hok1 hle hm hr ih ⊢
 cases m with
 | zero => omega
 | succ m =>
 rw [upP] at hr
 refine ARun.go 20 ?_
 simp only [W, seval, c51, hn, hi]
 obtain ⟨⟨b, s3⟩, hg_s3⟩ : ∃ r, gotP s1 [91] = r := ⟨_, rfl⟩
 have hp_s3 := got_pp bs h0 hl s1 [91]
 rw [hg_s3] at hp_s3
 dsimp only at hp_s3
 first
  | refine PP.call0 hp_s3 hc hok1 fun hok3 => ?_
  | refine PP.call hp_s3 hc hok1 fun hok3 => ?_
 rw [hg_s3] at hr
 cases b
 case' true =>
  dsimp only at hr
  have hlt := got_lt hg_s3
  have hdw := (dn_want s3 [93]).le
  obtain ⟨⟨n4, s4⟩, hu⟩ : ∃ r, upP m (wantP s3 [93]) = r := ⟨_, rfl⟩
  rw [hu] at hr
  dsimp only at hr
  have hw := wrap_in ((k : Int) + 1) (by omega)
  refine ARun.go 20 ?_
  simp only [W, seval, c51, hn, hi]
  first
   | refine PP.call0 (want_pp bs h0 hl s3 [93]) hc hok3 fun hok4 => ?_
   | refine PP.call (want_pp bs h0 hl s3 [93]) hc hok3 fun hok4 => ?_
  refine ARun.go 20 ?_
  simp only [W, seval, c51, hn, hi, hw]
  refine ih (k + 1, wantP s3 [93]) ⟨hok4, by dsimp only; omega, m, by dsimp only; omega, ?_⟩ (by dsimp only; omega) _ _ ?_ rfl
  ·dsimp only
   rw [hu, ← hr]
   simp only [Prod.mk.injEq, and_true]
   omega
  ·skip
   refine Agree.env _ ?_
   simp only [agw, seval, hn]
 case' false =>
  dsimp only at hr
  obtain ⟨rfl, rfl⟩ := Prod.mk.inj hr
  rw [Nat.add_zero] at hup ⊢
  clear ih hr hup
  refine ARun.go 60 ?_
  simp only [W, seval, c51, hn, hi, bxP]
  refine callS_fn (basic_ab s3.w.text _) ?_
  rintro _ _ ⟨rfl, rfl⟩
  refine ARun.go 2 ?_
  simp only [W, seval, c51, hn, hi]
  have hbk : (baseP s3).1.elem = [] := by
   unfold baseP
   split <;> rfl
  refine ARun.join (fun _ : Unit => (envS 45 [(0, .ptr c 0), (2, .ptr N 0), (3, .d (.int .i64 k)), (4, .ptr (N + 1) 0)], ⟨B.set c (bxP bs (baseP s3).2) ++ [[.d (.int .i64 0), .d (.str []), .sl [] .full], [.d (.int .i64 (baseP s3).1.kind), .d (.str (baseP s3).1.name), .sl [] .full]], T⟩)) (fun _ => OkP bs (baseP s3).2) ?_ ?_
  rotate_left
  ·intro K' hK
   refine ARun.goJ 200 ?_
   have hyes : 0 < kindS s3.w.text ∧ isP s3 s3.w.text = true → baseP s3 = (.mk (kindS s3.w.text) [] [], nextP s3) := fun h => if_pos h
   have hno : ¬ (0 < kindS s3.w.text ∧ isP s3 s3.w.text = true) → baseP s3 = (.mk 7 (nameP s3).1 [], (nameP s3).2) := fun h => if_neg h
   cases h1 : decide (0 < kindS s3.w.text)
   ·have hb := hno fun h => absurd h.1 (of_decide_eq_false h1)
    simp only [W, seval, c51, hn, hi, h1, bxP]
    obtain ⟨⟨g, s4⟩, hg4⟩ : ∃ r, nameP s3 = r := ⟨_, rfl⟩
    have hp4 := name_pp bs h0 hl s3
    rw [hg4] at hp4 hb
    refine PP.call hp4 hc hok3 fun hok4 => ?_
    rw [hb] at hK ⊢
    refine ARun.goK 30 ?_
    simp only [W, seval, c51, hn, hi]
    refine hK () hok4 _ _ ?_ rfl
    refine Agree.env _ ?_
    simp only [agw, seval, hn]
   ·simp only [W, seval, c51, hn, hi, h1, bxP]
    refine PP.call (is_pp bs s3 s3.w.text) hc hok3 fun _ => ?_
    cases h2 : isP s3 s3.w.text
    ·have hb := hno fun h => by rw [h2] at h; exact absurd h.2 (by decide)
     refine ARun.goK 30 ?_
     simp only [W, seval, c51, hn, hi]
     obtain ⟨⟨g, s4⟩, hg4⟩ : ∃ r, nameP s3 = r := ⟨_, rfl⟩
     have hp4 := name_pp bs h0 hl s3
     rw [hg4] at hp4 hb
     refine PP.call hp4 hc hok3 fun hok4 => ?_
     rw [hb] at hK ⊢
     refine ARun.goK 30 ?_
     simp only [W, seval, c51, hn, hi]
     refine hK () hok4 _ _ ?_ rfl
     refine Agree.env _ ?_
     simp only [agw, seval, hn]
    ·have hb := hyes ⟨of_decide_eq_true h1, h2⟩
     have hlv := is_live h2
     refine ARun.goK 30 ?_
     simp only [W, seval, c51, hn, hi]
     refine PP.call (next_pp bs h0 hl s3 fun _ => by omega) hc hok3 fun hok4 => ?_
     rw [hb] at hK ⊢
     refine ARun.goK 30 ?_
     simp only [W, seval, c51, hn, hi]
     refine hK () hok4 _ _ ?_ rfl
     refine Agree.env _ ?_
     simp only [agw, seval, hn]
  ·rintro ⟨⟩ hok4
   generalize baseP s3 = r at hok4 hbk ⊢
   obtain ⟨t0, s4⟩ := r
   dsimp only at hok4 hbk ⊢
   refine ARun.go 20 ?_
   simp only [W, seval, c51, hn, hi]
   refine ARun.loopW (fun a : Nat × TyT => (envS 45 [(0, .ptr c 0), (2, .ptr N 0), (4, .ptr (N + 1) 0), (37, .d (.int .i64 k)), (38, .d (.int .i64 a.1))], ⟨B.set c (bxP bs s4) ++ [[.d (.int .i64 0), .d (.str []), .sl [] .full], [.d (.int .i64 a.2.kind), .d (.str a.2.name), .sl (a.2.elem.map tyD) .full]], T⟩)) (fun a => a.1 ≤ k ∧ wrapT (k - a.1) a.2 = wrapT k t0) (fun a => k - a.1) (0, t0) ⟨Nat.zero_le _, rfl⟩ ?_ (by dsimp only; rw [hbk]; rfl) ?_
   ·skip
    refine Agree.env _ ?_
    simp only [agw, seval, hn]
   rintro ⟨j, t⟩ ⟨h1, h2⟩ ih
   dsimp only at h1 h2 ih ⊢
   by_cases hlt : j < k
   ·have hd : decide ((j : Int) < (k : Int)) = true := decide_eq_true (by omega)
    have hw := wrap_in ((j : Int) + 1) (by omega)
    have hks : k - j = (k - (j + 1)) + 1 := by omega
    rw [hks, wrapT] at h2
    refine ARun.go 60 ?_
    simp only [W, seval, c51, hn, hi, hd, hw, mapD_nil, mapD_cons, mapD_sl, Nat.reduceMul, ← tyD_eq]
    refine ih (j + 1, .mk 8 [] [t]) ⟨hlt, h2⟩ (by dsimp only; omega) _ _ ?_ rfl
    refine Agree.env _ ?_
    simp only [agw, seval, hn]
   ·have hd : decide ((j : Int) < (k : Int)) = false := decide_eq_false (by omega)
    have hks : k - j = 0 := by omega
    rw [hks, wrapT] at h2
    subst h2
    refine ARun.go 60 ?_
    simp only [W, seval, c51, hn, hi, hd]
    refine retc (v := ?_) Tryz.func51 (by rfl) ?_ ?_
    rotate_left
    ·simp only [W, seval, c51, hn, hi]
     exact rfl
    refine PF.retJ (fun _ _ => rfl) ?_
    refine ⟨?_, 0, hok4, rfl⟩
    rfl
end Go.Proofs.YtnnnhlkmdnacaaaGreatDoor
namespace Go.Ab
open Go.RowKit Go.Av
section
variable {P : Program} {I : Inv} {ops : Array Oper} {W : List Nat} {MM : Mem → Prop} {p : Nat}
def Splits (ops : Array Oper) (p : Nat) : Prop := ∀ j oj, p ≤ j → ops[j]? = some oj → ∀ i, i < p → ∃ e ∈ oj.after, Region.binds .any e = true ∧ e.on = i
def splitB (ops : Array Oper) (p : Nat) : Bool := (List.range ops.size).all fun j => Nat.ble (j + 1) p || (match ops[j]? with
 | some o => (List.range p).all fun i => o.after.any fun e => Region.binds .any e && Nat.beq e.on i
 | none => true)
theorem splitB_ok (h : splitB ops p = true) : Splits ops p := by
 intro j oj hj ho i hi
 have hjs := (Array.getElem?_eq_some_iff.1 ho).1
 have h1 := List.all_eq_true.1 h j (List.mem_range.2 hjs)
 have h2 : Nat.ble (j + 1) p = false := by
  cases hb : Nat.ble (j + 1) p with
  | false => rfl
  | true => have := Nat.le_of_ble_eq_true hb; omega
 rw [h2, Bool.false_or, ho] at h1
 have h3 := List.all_eq_true.1 h1 i (List.mem_range.2 hi)
 simp only [Array.any_eq_true] at h3
 obtain ⟨e, hes, h4⟩ := h3
 simp only [Bool.and_eq_true] at h4
 exact ⟨oj.after[e], Array.getElem_mem hes, h4.1, Nat.eq_of_beq_eq_true h4.2⟩
theorem ready_lt (hs : Splits ops p) {listed : Array Bool} {i j : Nat} (hi : i < p) (hu : listed.getD i true = false) (hj : j ∈ Region.ready .any ops listed) : j < p := by
 rcases Nat.lt_or_ge j p with h | h
 ·exact h
 ·obtain ⟨_, oj, hoj, hall⟩ := mem_ready.1 hj
  obtain ⟨e, he, hb, hon⟩ := hs j oj h hoj i hi
  have h1 := hall e he hb
  rw [hon] at h1
  rcases Nat.lt_or_ge i listed.size with h' | h'
  ·simp [h'] at hu h1; rw [hu] at h1; cases h1
  ·simp [Array.getElem?_eq_none h'] at h1
def anyE (P : Program) (I : Inv) (ops : Array Oper) (W : List Nat) (p : Nat) (MM : Mem → Prop) (K : Array Bool → List V → Mem → Prop) : Nat → Array Bool → List V → Mem → Prop
 | 0, listed, env, S => MM S ∧ (∀ i ∈ Region.ready .any ops listed, p ≤ i) ∧ K listed env S
 | n + 1, listed, env, S => MM S ∧ Region.ready .any ops listed ≠ [] ∧ ∀ i ∈ Region.ready .any ops listed, i < p ∧ ∃ o, ops[i]? = some o ∧
  ((W.contains i = true ∧ WC P I o env S fun v S' => anyE P I ops W p MM K n (listed.setIfInBounds i true) (setV env o.dst v) S') ∨
   (W.contains i = false ∧ ∃ v, QC P I MM o env v ∧ anyE P I ops W p MM K n (listed.setIfInBounds i true) (setV env o.dst v) S))
variable {K : Array Bool → List V → Mem → Prop}
theorem anyE.in : ∀ {n : Nat} {listed : Array Bool} {env : List V} {S : Mem}, anyE P I ops W p MM K n listed env S → MM S
 | 0, _, _, _, h => h.1
 | _ + 1, _, _, _, h => h.1
theorem anyE_quiet (hs : Splits ops p) {i : Nat} {oi : Oper} (hi : ops[i]? = some oi) (hip : i < p) (hq : W.contains i = false) {v : V} : ∀ (n : Nat) (listed : Array Bool) (env : List V) (S : Mem), Free ops listed i oi → i ∈ Region.ready .any ops listed → QC P I MM oi env v → anyE P I ops W p MM K n (listed.setIfInBounds i true) (setV env oi.dst v) S → anyE P I ops W p MM K (n + 1) listed env S := by
 intro n
 induction n with
 | zero =>
  intro listed env S _ hr hy H
  refine ⟨H.in, List.ne_nil_of_mem hr, fun j hj => ⟨ready_lt hs hip (mem_ready.1 hr).1 hj, ?_⟩⟩
  by_cases hji : j = i
  ·subst hji; exact ⟨oi, hi, .inr ⟨hq, v, hy, H⟩⟩
  ·have h1 := H.2.1 j (ready_mono hj hji)
   have h2 := ready_lt hs hip (mem_ready.1 hr).1 hj
   omega
 | succ n ih =>
  intro listed env S hfree hr hy H
  refine ⟨H.in, List.ne_nil_of_mem hr, fun j hj => ⟨ready_lt hs hip (mem_ready.1 hr).1 hj, ?_⟩⟩
  by_cases hji : j = i
  ·subst hji; exact ⟨oi, hi, .inr ⟨hq, v, hy, H⟩⟩
  obtain ⟨_, oj, hoj, hH⟩ := H.2.2 j (ready_mono hj hji)
  have hjun := (mem_ready.1 hj).1
  obtain ⟨a1, a2, a3⟩ := hfree.apart hr hj hji hoj
  have hready := ready_mono hr (Ne.symm hji)
  rcases hH with ⟨hwj, hg, Q, hne, hwo, hk⟩ | ⟨hwj, u, hqj, h1⟩
  ·refine ⟨oj, hoj, .inl ⟨hwj, hg, Q, hne, (WO.congr a1).1 hwo, fun u S' hQ => ?_⟩⟩
   refine ih (listed.setIfInBounds j true) (setV env oj.dst u) S' (hfree.next hjun) hready ((QC.congr a3).2 hy) ?_
   rw [Array.setIfInBounds_comm _ _ hji, ← setV_comm env v u a2]
   exact hk u S' hQ
  ·refine ⟨oj, hoj, .inr ⟨hwj, u, (QC.congr a1).1 hqj, ih (listed.setIfInBounds j true) (setV env oj.dst u) S (hfree.next hjun) hready ((QC.congr a3).2 hy) ?_⟩⟩
   rw [Array.setIfInBounds_comm _ _ hji, ← setV_comm env v u a2]
   exact h1
theorem anyE_write (hs : Splits ops p) {i : Nat} {oi : Oper} (hi : ops[i]? = some oi) (hip : i < p) (hq : W.contains i = true) : ∀ (n : Nat) (listed : Array Bool) (env : List V) (S : Mem), MM S → Free ops listed i oi → Waits ops W listed i → i ∈ Region.ready .any ops listed → WC P I oi env S (fun v S' => anyE P I ops W p MM K n (listed.setIfInBounds i true) (setV env oi.dst v) S') → anyE P I ops W p MM K (n + 1) listed env S := by
 intro n
 induction n with
 | zero =>
  intro listed env S hS _ _ hr hy
  refine ⟨hS, List.ne_nil_of_mem hr, fun j hj => ⟨ready_lt hs hip (mem_ready.1 hr).1 hj, ?_⟩⟩
  by_cases hji : j = i
  ·subst hji; exact ⟨oi, hi, .inl ⟨hq, hy⟩⟩
  ·have h2 := ready_lt hs hip (mem_ready.1 hr).1 hj
   obtain ⟨hg, Q, ⟨v0, S0, h0⟩, _, hk⟩ := hy
   have h1 := (hk v0 S0 h0).2.1 j (ready_mono hj hji)
   omega
 | succ n ih =>
  intro listed env S hS hfree hwait hr hy
  refine ⟨hS, List.ne_nil_of_mem hr, fun j hj => ⟨ready_lt hs hip (mem_ready.1 hr).1 hj, ?_⟩⟩
  by_cases hji : j = i
  ·subst hji; exact ⟨oi, hi, .inl ⟨hq, hy⟩⟩
  obtain ⟨hg, Q, ⟨v0, S0, h0⟩, hwo, hk⟩ := hy
  obtain ⟨_, oj, hoj, hH⟩ := (hk v0 S0 h0).2.2 j (ready_mono hj hji)
  obtain ⟨hjun, oj', hoj', hall⟩ := mem_ready.1 hj
  rw [hoj] at hoj'
  obtain rfl := Option.some.inj hoj'
  obtain ⟨a1, a2, a3⟩ := hfree.apart hr hj hji hoj
  have hready := ready_mono hr (Ne.symm hji)
  rcases hH with ⟨hwj, _⟩ | ⟨hwj, u, hqj, _⟩
  ·obtain ⟨e, he, hb, _, hun⟩ := hwait j oj hoj hwj hji hjun
   have h1 := hall e he hb
   rcases Nat.lt_or_ge e.on listed.size with h' | h'
   ·simp [h'] at hun h1; rw [hun] at h1; cases h1
   ·simp [Array.getElem?_eq_none h'] at h1
  ·have hqj' := (QC.congr a1).1 hqj
   refine ⟨oj, hoj, .inr ⟨hwj, u, hqj', ih (listed.setIfInBounds j true) (setV env oj.dst u) S hS (hfree.next hjun) (fun k ok hk hwk hki hun => ?_) hready ⟨hg, Q, ⟨v0, S0, h0⟩, (WO.congr a3).2 hwo, fun v S' hQ => ?_⟩⟩⟩
   ·by_cases hjk : j = k
    ·subst hjk
     rw [hwj] at hwk; cases hwk
    ·rw [getD_set_ne true hjk] at hun
     obtain ⟨e, he, hb, hwe, hue⟩ := hwait k ok hk hwk hki hun
     refine ⟨e, he, hb, hwe, ?_⟩
     have hne : j ≠ e.on := fun h => by rw [← h, hwj] at hwe; cases hwe
     rw [getD_set_ne true hne]
     exact hue
   ·obtain ⟨_, oj', hoj', hH'⟩ := (hk v S' hQ).2.2 j (ready_mono hj hji)
    rw [hoj] at hoj'
    obtain rfl := Option.some.inj hoj'
    rcases hH' with ⟨hwj', _⟩ | ⟨_, u', hqj', h1⟩
    ·rw [hwj] at hwj'; cases hwj'
    ·have e2 : QC P I MM oj env u' := (QC.congr a1).1 hqj'
     have e3 := QC.one hS e2 ((QC.congr a1).1 hqj)
     subst e3
     rw [Array.setIfInBounds_comm _ _ hji, ← setV_comm env v u' a2]
     exact h1
theorem anyE_lex (hs : Splits ops p) (hW0 : (W.all fun k => Nat.ble (k + 1) ops.size) = true) (hWB : (W.all fun k => W.all fun j => Nat.ble j k || (match ops[j]? with
 | some o => o.after.any fun e => Region.binds .any e && Nat.ble k e.on && W.contains e.on
 | none => true)) = true) {KK : List V → Mem → Prop} (m : Nat) (hKK : ∀ listed env S, listed.size = ops.size → (∀ j, j < ops.size → listed.getD j true = decide (j < p)) → Region.lexFrom .any ops m p listed = true → KK env S → K listed env S) : ∀ (l : List Oper) (k : Nat) (listed : Array Bool) (env : List V) (S : Mem), (∀ j, j < l.length → l[j]? = ops[k + j]?) → k + l.length = p → listed.size = ops.size → (∀ j, j < ops.size → listed.getD j true = decide (j < k)) →
  Region.lexFrom .any ops (l.length + m) k listed = true → lexC P I W MM KK l k env S → anyE P I ops W p MM K l.length listed env S
 | [], k, listed, env, S, _, hkp, hsz, hls, hB, h => by
  have hkp : k = p := by simpa using hkp
  subst hkp
  refine ⟨h.1, fun i hi => ?_, hKK listed env S hsz hls (by simpa using hB) h.2⟩
  obtain ⟨hu, oi, hoi, _⟩ := mem_ready.1 hi
  rw [hls i (Array.getElem?_eq_some_iff.1 hoi).1] at hu
  have := of_decide_eq_false hu
  omega
 | o :: l, k, listed, env, S, hl, hkp, hsz, hls, hB, h => by
  have h0 : ops[k]? = some o := by simpa using (hl 0 (by simp)).symm
  have hk := (Array.getElem?_eq_some_iff.1 h0).1
  have hkp2 : k < p := by simp at hkp; omega
  rw [show (o :: l).length + m = (l.length + m) + 1 by simp; omega] at hB
  simp only [Region.lexFrom, Bool.and_eq_true] at hB
  obtain ⟨⟨hr, hf⟩, hB'⟩ := hB
  have hnext : ∀ j, j < ops.size → (listed.setIfInBounds k true).getD j true = decide (j < k + 1) := by
   intro j hj
   by_cases hjk : k = j
   ·subst hjk
    have : decide (k < k + 1) = true := decide_eq_true (by omega)
    rw [this]
    by_cases hs : k < listed.size <;> simp [hs]
   ·rw [getD_set_ne true hjk, hls j hj]
    exact decide_eq_decide.2 (by omega)
  have hl' : ∀ j, j < l.length → l[j]? = ops[k + 1 + j]? := fun j hj => by
   have := hl (j + 1) (by simp; omega)
   simpa [Nat.add_assoc, Nat.add_comm 1 j] using this
  have hfree : Free ops listed k o := Region.free_spec h0 hf
  cases hw : W.contains k with
  | true =>
   obtain ⟨hS, hg, Q, hne, hwo, hK⟩ := h.1 hw
   refine anyE_write hs h0 hkp2 hw l.length listed env S hS hfree (fun j oj hoj hwj hjk hun => ?_) (by simpa using hr) ⟨hg, Q, hne, hwo, fun v S' hQ => anyE_lex hs hW0 hWB m hKK l (k + 1) _ _ _ hl' (by simp at hkp; omega) (by simpa using hsz) hnext hB' (hK v S' hQ)⟩
   have hjs := (Array.getElem?_eq_some_iff.1 hoj).1
   rw [hls j hjs] at hun
   have hkj : k < j := by have := of_decide_eq_false hun; omega
   have h1 := List.all_eq_true.1 (List.all_eq_true.1 hWB k (List.contains_iff_mem.1 hw)) j (List.contains_iff_mem.1 hwj)
   have h2 : Nat.ble j k = false := by
    cases hb : Nat.ble j k with
    | false => rfl
    | true => have := Nat.le_of_ble_eq_true hb; omega
   rw [h2, Bool.false_or, hoj] at h1
   simp only [Array.any_eq_true] at h1
   obtain ⟨e, hes, h3⟩ := h1
   simp only [Bool.and_eq_true, Nat.ble_eq] at h3
   refine ⟨oj.after[e], Array.getElem_mem hes, h3.1.1, h3.2, ?_⟩
   have hlt : oj.after[e].on < ops.size := Nat.le_of_ble_eq_true (List.all_eq_true.1 hW0 _ (List.contains_iff_mem.1 h3.2))
   rw [hls _ hlt]
   exact decide_eq_false (by have := h3.1.2; omega)
  | false =>
   obtain ⟨v, hv, hK⟩ := h.2 hw
   exact anyE_quiet hs h0 hkp2 hw l.length listed env S hfree (by simpa using hr) hv (anyE_lex hs hW0 hWB m hKK l (k + 1) _ _ _ hl' (by simp at hkp; omega) (by simpa using hsz) hnext hB' hK)
theorem anyE_run {z : Nat × Nat} {fn : FuncId} {k : List Item} {R : V → Mem → Prop} {m : Nat} : ∀ (n t : Nat) (listed : Array Bool) (env : List V) (S : Mem), anyE P I ops W p MM (fun listed env S => ∀ t, ARun P I z fn (.inRegion ops (Region.linearise.go .any ops m t listed []) :: k) env S R) n listed env S → ARun P I z fn (.inRegion ops (Region.linearise.go .any ops (n + m) t listed []) :: k) env S R
 | 0, t, listed, env, S, h => by
  rw [Nat.zero_add]
  exact h.2.2 t
 | n + 1, t, listed, env, S, h => by
  obtain ⟨hS, h₀, h₁⟩ := h
  rw [show n + 1 + m = (n + m) + 1 by omega]
  simp only [Region.linearise.go]
  change ARun P I z fn (.inRegion ops (match (Region.ready .any ops listed)[t % (Region.ready .any ops listed).length]? with
   | some i => Region.linearise.go .any ops (n + m) (t / (Region.ready .any ops listed).length) (listed.setIfInBounds i true) [i]
   | none => [].reverse) :: k) env S R
  cases hi : (Region.ready .any ops listed)[t % (Region.ready .any ops listed).length]? with
  | none =>
   exfalso
   cases hr : Region.ready .any ops listed with
   | nil => exact h₀ hr
   | cons x xs =>
    rw [hr] at hi
    have hlt : t % (x :: xs).length < (x :: xs).length := Nat.mod_lt _ (by simp)
    simp at hi
    simp at hlt
    omega
  | some i =>
   simp only []
   rw [linearise_go_acc, List.reverse_singleton, List.singleton_append]
   obtain ⟨_, o, ho, ⟨_, hg, Q, _, hwo, hn⟩ | ⟨_, v, hy, hn⟩⟩ := h₁ i (List.mem_of_getElem? hi)
   ·exact hwo.step ho hg fun v S' hQ => anyE_run n _ _ _ _ (hn v S' hQ)
   ·exact .op ho (.inl hy.1) (hy.2 S hS) (anyE_run n _ _ _ _ hn)
theorem ARun.drawE {z : Nat × Nat} {fn : FuncId} {k : List Item} {R : V → Mem → Prop} {id : Nat} {env : List V} {S : Mem} (p : Nat) (W : List Nat) (MM : Mem → Prop) (hm : P.follows .mixedOrders = true) (hB : Region.lexB .any ops = true) (hW : waitsB ops W = true) (hs : splitB ops p = true) (hp : Nat.ble p ops.size = true)
 (h : lexC P I W MM (fun env S => lexC P I W (fun _ => True) (fun env S => ARun P I z fn k env S R) (ops.toList.drop p) p env S) (ops.toList.take p) 0 env S) : ARun P I z fn (.code (.region id ops true) :: k) env S R := by
 intro b a c w c0 w0 h1 h2 h3 h4 h5 h6 hI cs
 have hp := Nat.le_of_ble_eq_true hp
 have hd : Below w.heap.size w { w with drawn := w.drawn + 1 } := ⟨rfl, rfl, rfl, Nat.le_refl _, fun _ _ => rfl⟩
 obtain ⟨r1, r2⟩ := h5.under hd
 simp only [Region.lexB, Bool.and_eq_true] at hB
 simp only [waitsB, Bool.and_eq_true] at hW
 have hlt : (ops.toList.take p).length = p := by simp; omega
 have hld : (ops.toList.drop p).length = ops.size - p := by simp
 have hB2 : Region.lexFrom .any ops ((ops.toList.take p).length + (ops.size - p)) 0 (Array.replicate ops.size false) = true := by
  rw [hlt, Nat.add_sub_cancel' hp]
  simpa using hB.2
 have hany := anyE_lex (P := P) (I := I) (MM := MM) (W := W) (K := fun listed env S => ∀ t, ARun P I z fn (.inRegion ops (Region.linearise.go .any ops (ops.size - p) t listed []) :: k) env S R) (splitB_ok hs) hW.1 hW.2 (ops.size - p) (fun listed env S _ hls hB h t => by
  rw [← hld] at hB ⊢
  exact anyC_run (W := W) (MM := fun _ => True) _ t listed env S (anyC_lex hW.1 hW.2 (ops.toList.drop p) p listed env S (fun j => by simp) hls hB h)) (ops.toList.take p) 0 (Array.replicate ops.size false) env S (fun j hj => by rw [hlt] at hj; simp [hj]) (by rw [hlt, Nat.zero_add]) (by simp) (fun j hj => by simp [hj]) hB2 h
 have hrun := anyE_run (fn := fn) (k := k) (R := R) _ (w.tape w.drawn (.order b.fn id)) _ _ _ hany
 rw [hlt, Nat.add_sub_cancel' hp] at hrun
 obtain ⟨e, w', fr, g1, g2, g3⟩ := hrun b a c _ c0 w0 h1 h2 h3 (h4.ext r2) r1 (h6.trans r2) ⟨r2.I.trans hI.1, hI.2⟩ cs
 refine ⟨e, w', fr, g1, .of_steps (.one ?_) g2, g3⟩
 have := step_region_draw (P := P) (b := b) (a := a) (k := k) (cs := cs) (w := w) (ops := ops) (id := id)
 rw [this]
 simp only [Region.schedule, hm, Bool.true_or, if_true, Region.linearise]
end
end Go.Ab
namespace Go.Proofs.YtnnnhlkmdnacaaaGreatDoor
open Go.RowKit Go.Av Go.Ab
section
variable {bs : List UInt8} {f : FuncId} {ar : List V} {s s' : Ps} {v : V} {c : Nat} {B J : List (List V)} {T : List (Nat × Nat)} {env : List V}
theorem PP.wit {z : Nat × Nat} {fn : FuncId} {k : List Item} {R : V → Mem → Prop} (h : PP bs f ar s v s') (hc : c < B.length) (hok : OkP bs s) (ha : ∀ x ∈ V.ptr c 0 :: ar, ∃ y : Operand, evalV TabI env y = x) (hk : OkP bs s' → ARun Tryz.prog TabI z fn k env ⟨B.set c (bxP bs s) ++ J, T⟩ R) : ARun Tryz.prog TabI z fn k env ⟨B.set c (bxP bs s) ++ J, T⟩ R :=
 ARun.witness (PF.fn (i := 0) h hc hok) ha fun ⟨_, _, _, _, hok', _⟩ => hk hok'
theorem PP.lexc {W : List Nat} {MM : Mem → Prop} {K : List V → Mem → Prop} {o : Oper} {l : List Oper} {k : Nat} (h : PP bs f ar s v s') (hc : c < B.length) (hok : OkP bs s) (hok' : OkP bs s') (hS : MM ⟨B.set c (bxP bs s) ++ J, T⟩) (hk : W.contains k = true) (hg : o.guard = none)
 (h1 : ∃ q f0, o.op = .call q ∧ q.callee = .value f0 ∧ evalV TabI env f0 = .func f [] [] ∧ q.args.toList.map (evalV TabI env) = .ptr c 0 :: ar) (h5 : lexC Tryz.prog TabI W MM K l (k + 1) (setV env o.dst v) ⟨B.set c (bxP bs s') ++ J, T⟩) : lexC Tryz.prog TabI W MM K (o :: l) k env ⟨B.set c (bxP bs s) ++ J, T⟩ := by
 obtain ⟨q, f0, e1, e2, e3, e4⟩ := h1
 refine lexC_c (Q := fun v' m => v' = v ∧ ∃ i', OkP bs s' ∧ m = ⟨B.set c (bxP bs s') ++ J, T⟩) hS hk hg e1 e2 e3 ⟨_, _, rfl, 0, hok', rfl⟩ ?_ ?_
 ·rw [e4, List.nil_append, List.append_nil]
  exact PF.fn (i := 0) h hc hok
 ·rintro v' S' ⟨rfl, _, _, rfl⟩
  exact h5
end
end Go.Proofs.YtnnnhlkmdnacaaaGreatDoor
namespace Go.Ab
open Go.RowKit Go.Av
section
variable {P : Program} {I : Inv} {z : Nat × Nat} {fn : FuncId} {R : V → Mem → Prop} {k : List Item} {env : List V}
theorem ARun.after {α : Type} (pre K : List Item) (st : α → List V × Mem) (ok : α → Prop) {S : Mem} (h1 : ∀ a, ok a → ARun P I z fn K (st a).1 (st a).2 R)
 (h2 : ∀ K', (∀ a, ok a → ∀ env' S', EnvW (st a).1 env' → (st a).2 = S' → ARun P I z fn K' env' S' R) → ARun P I z fn (pre ++ K') env S R) : ARun P I z fn (pre ++ K) env S R :=
 h2 K fun a ha _ _ he hS => ARun.weak he (hS ▸ h1 a ha)
theorem Rep.rebox {c : Cx} {w : World} {B : List (List V)} {T : List (Nat × Nat)} (h : Rep c w ⟨B, T⟩) {i : Nat} {vs us : List V} (hi : B[i]? = some vs) (hl : us.length = vs.length) (hv : ∀ j (hj : j < vs.length) (hj' : j < us.length) x, VR c w vs[j] x → VR c w us[j] x) : Rep c w ⟨B.set i us, T⟩ := by
 have hiB := (List.getElem?_eq_some_iff.1 hi).1
 refine ⟨h.hB, by simpa using h.len, fun j b hj => ?_, h.inj, h.toks, h.tok, h.disj, h.inv⟩
 obtain ⟨a, cs, Ty, hh, vs', e1, e2, e3⟩ := h.box j b hj
 have e1 : B[j]? = some vs' := e1
 by_cases e : j = i
 ·subst e
  rw [hi] at e1
  obtain rfl := Option.some.inj e1
  exact ⟨a, cs, Ty, hh, us, by show (B.set j us)[j]? = some us; simp [hiB], by omega, fun q hq => ⟨hv q (by omega) hq _ (e3 q (by omega)).1, (e3 q (by omega)).2⟩⟩
 ·exact ⟨a, cs, Ty, hh, vs', by show (B.set i us)[j]? = some vs'; rw [List.getElem?_set_ne (fun h => e h.symm)]; exact e1, e2, e3⟩
theorem VR.plain {c : Cx} {w : World} {rows : List (List D)} {tk : Tok} {v : Value} (h : VR c w (.sl rows tk) v) : VR c w (.d (.sl rows)) v := by
 cases h with
 | full _ a h ha => exact .d _ _ h
 | own _ t a cap i h ht hr hn hl => exact .d _ _ h
def LessL (vs us : List V) : Prop := us.length = vs.length ∧ ∀ j (hj : j < vs.length) (hj' : j < us.length), us[j] = vs[j] ∨ ∃ rows tk, vs[j] = .sl rows tk ∧ us[j] = .d (.sl rows)
theorem LessL.nil : LessL [] [] := ⟨rfl, fun j hj => absurd hj (Nat.not_lt_zero j)⟩
theorem LessL.same {v : V} {vs us : List V} (h : LessL vs us) : LessL (v :: vs) (v :: us) := ⟨by simp [h.1], fun j hj hj' => by
 cases j with
 | zero => exact .inl rfl
 | succ j => exact h.2 j (by simpa using hj) (by simpa using hj')⟩
theorem LessL.sl {rows : List (List D)} {tk : Tok} {vs us : List V} (h : LessL vs us) : LessL (.sl rows tk :: vs) (.d (.sl rows) :: us) := ⟨by simp [h.1], fun j hj hj' => by
 cases j with
 | zero => exact .inr ⟨rows, tk, rfl, rfl⟩
 | succ j => exact h.2 j (by simpa using hj) (by simpa using hj')⟩
theorem ARun.plainB {B : List (List V)} {T : List (Nat × Nat)} (i : Nat) (vs us : List V) (hi : B[i]? = some vs) (hl : LessL vs us) (h : ARun P I z fn k env ⟨B.set i us, T⟩ R) : ARun P I z fn k env ⟨B, T⟩ R := by
 intro b a c w c0 w0 h1 h2 h3 h4 h5 h6 hI
 refine h b a c w c0 w0 h1 h2 h3 h4 (h5.rebox hi hl.1 fun j hj hj' x hx => ?_) h6 hI
 rcases hl.2 j hj hj' with e | ⟨rows, tk, e1, e2⟩
 ·rw [e]; exact hx
 ·rw [e2]; rw [e1] at hx; exact hx.plain
theorem ARun.plainJ {B J : List (List V)} {T : List (Nat × Nat)} (q : Nat) (vs us : List V) (hi : J[q]? = some vs) (hl : LessL vs us) (h : ARun P I z fn k env ⟨B ++ J.set q us, T⟩ R) : ARun P I z fn k env ⟨B ++ J, T⟩ R := by
 refine ARun.plainB (B.length + q) vs us (by rw [bx_loc rfl]; exact hi) hl ?_
 rw [bx_set_loc rfl]
 exact h
theorem ARun.tokenB {B : List (List V)} {T : List (Nat × Nat)} (i q : Nat) (vs : List V) (rows : List (List D)) (hi : B[i]? = some vs) (hq : vs[q]? = some (.sl rows .full)) (sz : Nat) (h0 : 0 < sz) (hsz : rowsSz sz rows = true)
 (h : ARun P I z fn k env ⟨B.set i (vs.set q (.sl rows (.own T.length))), T ++ [(rows.length, sz)]⟩ R) : ARun P I z fn k env ⟨B, T⟩ R := by
 intro b a c w c0 w0 h1 h2 h3 h4 h5 h6 hI
 have hiB := (List.getElem?_eq_some_iff.1 hi).1
 obtain ⟨hqv, hq'⟩ := List.getElem?_eq_some_iff.1 hq
 have hlen : B.length = c.ρ.length := h5.len
 obtain ⟨b0, hb0⟩ : ∃ b0, c.ρ[i]? = some b0 := ⟨_, List.getElem?_eq_getElem (by omega)⟩
 obtain ⟨_, cs, Ty, hh, vs', e1, e2, e3⟩ := h5.box i b0 hb0
 have e1 : B[i]? = some vs' := e1
 rw [hi] at e1
 obtain rfl := Option.some.inj e1
 have hv := (e3 q hqv).1
 rw [hq'] at hv
 obtain ⟨c', r1, r2, r3⟩ := h5.token hv sz h0 (rowsSz_iff hsz)
 refine h b a c' w c0 w0 h1 h2 h3 (h4.ext r2) ?_ (h6.trans r2) ⟨r2.I.trans hI.1, hI.2⟩
 have hb' := r2.keeps.ρ i b0 hb0
 have hiB' : (⟨B, T ++ [(rows.length, sz)]⟩ : Mem).boxes[i]? = some vs := hi
 refine ⟨r1.hB, by simpa using r1.len, fun j bj hj => ?_, r1.inj, r1.toks, r1.tok, r1.disj, r1.inv⟩
 obtain ⟨a', cs', Ty', hh', us, f1, f2, f3⟩ := r1.box j bj hj
 have f1 : B[j]? = some us := f1
 by_cases e : j = i
 ·subst e
  rw [hi] at f1
  obtain rfl := Option.some.inj f1
  rw [hb'] at hj
  obtain rfl := Option.some.inj hj
  rw [hh] at hh'
  obtain ⟨rfl, _⟩ : cs = cs' ∧ True := by
   have := Option.some.inj hh'
   simp at this
   exact ⟨this.1, trivial⟩
  refine ⟨a', cs, Ty', by rw [hh]; exact hh', vs.set q (.sl rows (.own T.length)), by show (B.set j _)[j]? = _; simp [hiB], by simp [e2], fun m hm => ?_⟩
  have hm' : m < vs.length := by simpa using hm
  refine ⟨?_, (f3 m hm').2⟩
  by_cases hmq : m = q
  ·subst hmq
   rw [List.getElem_set_self]
   exact r3
  ·rw [List.getElem_set_ne (fun h => hmq h.symm)]
   exact (f3 m hm').1
 ·exact ⟨a', cs', Ty', hh', us, by show (B.set i _)[j]? = _; rw [List.getElem?_set_ne (fun h => e h.symm)]; exact f1, f2, f3⟩
end
end Go.Ab
namespace Go.Proofs.YtnnnhlkmdnacaaaGreatDoor
open Go.RowKit Go.Av Go.Ab
set_option linter.unusedSimpArgs false
set_option maxRecDepth 100000
set_option linter.defProp false
def c126 := by
 have c := KK_of Tryz.f126 (by conv => lhs; cbv)
 dsimp only [KK, KxP, doO, opO, List.map_cons, List.map_nil, List.toList_toArray] at c
 exact c
theorem b126 : FnIs Tryz.prog 126 Tryz.f126 40 := ⟨Tryz.func126, by kernel_rfl⟩
def EOk (bs : List UInt8) (E : EP) (n : Nat) : Prop := ∀ s, mu s < n → PP bs 36 [.d (.int .i64 1)] s (exV (E s).1) (E s).2
theorem rows8 (x : ExT) : [D.int .i64 x.kind, .str x.text, .int .u64 x.int, .int .i64 x.type.kind, .str x.type.name, .sl (x.type.elem.map tyD), .sl (ssD x.names), .sl (x.kids.map exD)] = exD x := (exD_eq x).symm
theorem ex1 (x : ExT) : rowsSz 8 [exD x] = true := rowsSz_ex [x]
set_option maxHeartbeats 2000000 in
theorem list_pp (bs : List UInt8) (h0 : True) (hl : bs.length ≤ 100000) {E : EP} {n : Nat} (hE : EOk bs E n) (hd : DnE E) (en : List UInt8) (comma : Bool) (M : Nat) (s : Ps) (hn1 : mu s < n) (hM : mu s < M) :
 PP bs 126 [.d (.str en), .d (.bool comma)] s (.d (.sl ((listP E en comma M s).1.map exD))) (listP E en comma M s).2 := by
 intro c B T i hc hok
 obtain ⟨N, hn⟩ : ∃ N, B.length = N := ⟨_, rfl⟩
 obtain ⟨t, ht⟩ : ∃ t, T.length = t := ⟨_, rfl⟩
 have hi : c < N := by omega
 have hmu := hok.mu_le
 obtain ⟨⟨l0, s0⟩, hL⟩ : ∃ r, listL E en comma M s = r := ⟨_, rfl⟩
 unfold listP
 rw [hL]
 dsimp only
 refine b126.go 14 rfl fun hsm => ?_
 simp only [smw] at hsm
 simp only [W, seval, c126, hn, hi]
 refine ARun.token 7 [] (by rfl) 8 (by omega) rfl ?_
 simp only [envS_put, ht]
 refine ARun.after [_, _] _ (fun _ : Unit => (envS 40 [(0, .ptr c 0), (1, .d (.str en)), (7, .sl (l0.map exD) (.own t))], ⟨B.set c (bxP bs s0), T ++ [(l0.length, 8)]⟩)) (fun _ => OkP bs s0) ?_ ?_
 ·rintro ⟨⟩ hok0
  refine ARun.go 20 ?_
  simp only [W, seval, c126]
  first
   | refine PP.call0 (want_pp bs h0 hl s0 en) hc hok0 fun hok1 => ?_
   | refine PP.call (want_pp bs h0 hl s0 en) hc hok0 fun hok1 => ?_
  refine ARun.go 20 ?_
  simp only [W, seval, c126]
  refine ARun.ret Tryz.func126 rfl (PF.retK (fun _ _ => rfl) ?_)
  refine ⟨?_, 0, hok1, rfl⟩
  simp only [W, seval, c126, wk, ht]
  simp
 intro K' hend
 refine ARun.loopW (fun a : List ExT × Ps => (envS 40 [(0, .ptr c 0), (1, .d (.str en)), (2, .d (.bool comma)), (7, .sl (a.1.map exD) (.own t))], ⟨B.set c (bxP bs a.2), T ++ [(a.1.length, 8)]⟩)) (fun a => OkP bs a.2 ∧ mu a.2 < n ∧ a.1.length + mu a.2 ≤ mu s ∧ ∃ m, mu a.2 < m ∧ (a.1 ++ (listL E en comma m a.2).1, (listL E en comma m a.2).2) = (l0, s0)) (fun a => mu a.2) ([], s) ⟨hok, hn1, by simp, M, hM, by dsimp only; rw [hL, List.nil_append]⟩ ?_ rfl ?_
 ·skip
  refine Agree.env _ ?_
  simp only [agw, seval, hn]
  trivial
 rintro ⟨l, s1⟩ ⟨hok1, hn2, hle, m, hm, hr⟩ ih
 dsimp only at hok1 hn2 hle hm hr ih ⊢
 cases m with
 | zero => omega
 | succ m =>
 rw [listL] at hr
 by_cases hc1 : s1.e = 0 ∧ isP s1 en = false
 ·rw [if_pos hc1] at hr
  have e1 := decide_eq_true hc1.1
  refine ARun.goK (k := [_, _, _]) 60 ?_
  simp only [W, seval, c126, hn, hi, bxP, e1]
  refine PP.call0 (is_pp bs s1 en) hc hok1 fun _ => ?_
  refine ARun.goK 60 ?_
  simp only [W, seval, c126, hc1.2]
  obtain ⟨⟨x, s2⟩, hx⟩ : ∃ r, E s1 = r := ⟨_, rfl⟩
  have hpx := hE s1 hn2
  have hdx := (hd.at hx).le
  rw [hx] at hpx hr
  dsimp only at hpx hr
  refine PP.call0 hpx hc hok1 fun hok2 => ?_
  have hcap : (l.length + 1) * 128 ≤ 140737488355328 := by omega
  have hmap : l.map exD ++ [exD x] = (l ++ [x]).map exD := by simp
  unfold exV
  refine ARun.goK 60 ?_
  simp only [W, seval, c126, hn, hi, ht, mapD_nil, mapD_cons, Nat.reduceMul, rows8, hcap, hmap, ex1]
  obtain ⟨⟨b, s3⟩, hg_s3⟩ : ∃ r, gotP s2 [44] = r := ⟨_, rfl⟩
  have hp_s3 := got_pp bs h0 hl s2 [44]
  rw [hg_s3] at hp_s3
  dsimp only at hp_s3
  first
   | refine PP.call0 hp_s3 hc hok2 fun hok3 => ?_
   | refine PP.call hp_s3 hc hok2 fun hok3 => ?_
  rw [hg_s3] at hr
  have hlen : (l ++ [x]).length = l.length + 1 := by simp
  cases b
  case' false =>
   dsimp only at hr
   obtain ⟨rfl, rfl⟩ := Prod.mk.inj hr
   refine ARun.goK 60 ?_
   simp only [W, seval, c126]
   refine hend () hok3 _ _ ?_ (by rw [hlen])
   refine Agree.env _ ?_
   simp only [agw, seval, hn]
  case' true =>
   have hlt := got_lt hg_s3
   dsimp only at hr
   obtain ⟨s4, hs4⟩ : ∃ s4, (if comma = false ∧ isP s3 en = true then failP s3 51 else s3) = s4 := ⟨_, rfl⟩
   have hmu4 : mu s4 ≤ mu s3 := by
    rw [← hs4]
    split
    ·exact (dn_fail s3 51).le
    ·exact Nat.le_refl _
   rw [hs4] at hr
   obtain ⟨⟨l5, s5⟩, h5⟩ : ∃ r, listL E en comma m s4 = r := ⟨_, rfl⟩
   rw [h5] at hr
   dsimp only at hr
   have hfin : OkP bs s4 → OkP bs s4 ∧ mu s4 < n ∧ (l ++ [x]).length + mu s4 ≤ mu s ∧ ∃ m', mu s4 < m' ∧ ((l ++ [x]) ++ (listL E en comma m' s4).1, (listL E en comma m' s4).2) = (l0, s0) := fun h => ⟨h, by omega, by omega, m, by omega, by rw [h5, ← hr]; simp⟩
   cases hcm : comma
   case' true =>
    rw [if_neg (by rw [hcm]; simp)] at hs4
    subst hs4
    refine ARun.goK 60 ?_
    simp only [W, seval, c126, hcm]
    refine ih (l ++ [x], s3) (hfin hok3) (by dsimp only; omega) _ _ ?_ (by dsimp only; rw [hlen])
    refine Agree.env _ ?_
    simp only [agw, seval, hn, hcm]
   case' false =>
    refine ARun.goK 60 ?_
    simp only [W, seval, c126, hcm]
    refine PP.call0 (is_pp bs s3 en) hc hok3 fun _ => ?_
    cases his : isP s3 en
    case' false =>
     rw [if_neg (by rw [his]; simp)] at hs4
     subst hs4
     refine ARun.goK 60 ?_
     simp only [W, seval, c126, hcm]
     refine ih (l ++ [x], s3) (hfin hok3) (by dsimp only; omega) _ _ ?_ (by dsimp only; rw [hlen])
     refine Agree.env _ ?_
     simp only [agw, seval, hn, hcm]
    case' true =>
     rw [if_pos ⟨hcm, his⟩] at hs4
     refine ARun.goK 60 ?_
     simp only [W, seval, c126, hcm]
     refine PP.call0 (fail_pp bs s3 51 (by decide)) hc hok3 fun hok4 => ?_
     rw [hs4] at hok4 ⊢
     refine ARun.goK 60 ?_
     simp only [W, seval, c126, hcm]
     refine ih (l ++ [x], s4) (hfin hok4) (by dsimp only; omega) _ _ ?_ (by dsimp only; rw [hlen])
     refine Agree.env _ ?_
     simp only [agw, seval, hn, hcm]
 ·rw [if_neg hc1, List.append_nil] at hr
  obtain ⟨rfl, rfl⟩ := Prod.mk.inj hr
  by_cases he : s1.e = 0
  ·have e1 := decide_eq_true he
   have his : isP s1 en = true := by
    cases h : isP s1 en
    ·exact absurd ⟨he, h⟩ hc1
    ·rfl
   refine ARun.goK (k := [_, _, _]) 60 ?_
   simp only [W, seval, c126, hn, hi, bxP, e1]
   refine PP.call0 (is_pp bs s1 en) hc hok1 fun _ => ?_
   refine ARun.goK 60 ?_
   simp only [W, seval, c126, his]
   refine hend () hok1 _ _ ?_ rfl
   refine Agree.env _ ?_
   simp only [agw, seval, hn]
  ·have e1 := decide_eq_false he
   refine ARun.goK (k := [_, _, _]) 60 ?_
   simp only [W, seval, c126, hn, hi, bxP, e1]
   refine hend () hok1 _ _ ?_ rfl
   refine Agree.env _ ?_
   simp only [agw, seval, hn]
def c131 := by
 have c := KK_of Tryz.f131 (by conv => lhs; cbv)
 dsimp only [KK, KxP, doO, opO, List.map_cons, List.map_nil, List.toList_toArray] at c
 exact c
theorem b131 : FnIs Tryz.prog 131 Tryz.f131 15 := ⟨Tryz.func131, by kernel_rfl⟩
def c129 := by
 have c := KK_of Tryz.f129 (by conv => lhs; cbv)
 dsimp only [KK, KxP, doO, opO, List.map_cons, List.map_nil, List.toList_toArray] at c
 exact c
theorem b129 : FnIs Tryz.prog 129 Tryz.f129 14 := ⟨Tryz.func129, by kernel_rfl⟩
def c125 := by
 have c := KK_of Tryz.f125 (by conv => lhs; cbv)
 dsimp only [KK, KxP, doO, opO, List.map_cons, List.map_nil, List.toList_toArray] at c
 exact c
theorem b125 : FnIs Tryz.prog 125 Tryz.f125 56 := ⟨Tryz.func125, by kernel_rfl⟩
theorem ha0 {c : Nat} {env : List V} (h : evalV TabI env (.tmp 0) = .ptr c 0) : ∀ x ∈ [V.ptr c 0], ∃ y : Operand, evalV TabI env y = x := by
 intro x hx
 obtain rfl := List.mem_singleton.1 hx
 exact ⟨_, h⟩
theorem haN {c : Nat} {env : List V} (k : Int) (h : evalV TabI env (.tmp 0) = .ptr c 0) : ∀ x ∈ [V.ptr c 0, .d (.int .i64 k)], ∃ y : Operand, evalV TabI env y = x := by
 intro x hx
 rcases List.mem_cons.1 hx with rfl | hx
 ·exact ⟨_, h⟩
 ·obtain rfl := List.mem_singleton.1 hx
  exact ⟨.const (.int .i64 k), rfl⟩
section
variable {bs : List UInt8} {f : FuncId} {ar : List V} {s s' : Ps} {v : V} {c : Nat} {B J : List (List V)} {T : List (Nat × Nat)} {stop : Cont} {k : List Item} {d : Option Tmp} {env : List V}
theorem PP.callm (h : PP bs f ar s v s') (hc : c < B.length) (hok : OkP bs s) (hk : OkP bs s' → stop k (setV env d v) ⟨B.set c (bxP bs s') ++ J, T⟩) : callS Tryz.prog TabI stop (.func f [.ptr c 0] []) ar k d env ⟨B.set c (bxP bs s) ++ J, T⟩ := by
 have h1 := PF.fn (i := 0) (J := J) (T := T) h hc hok
 refine callS_of (Q := fun v' m => v' = v ∧ ∃ i' : Nat, OkP bs s' ∧ m = ⟨B.set c (bxP bs s') ++ J, T⟩) (by simpa using h1) ?_
 rintro _ _ ⟨rfl, _, hok', rfl⟩
 exact hk hok'
end
set_option maxHeartbeats 2000000 in
theorem values_pp (bs : List UInt8) (h0 : True) (hl : bs.length ≤ 100000) {E : EP} {n : Nat} (hE : EOk bs E n) (hd : DnE E) (M : Nat) (s : Ps) (hn1 : mu s < n) (hM : mu s < M) :
 PP bs 131 [] s (.d (.sl ((valsP E M s).1.map exD))) (valsP E M s).2 := by
 intro c B T i hc hok
 obtain ⟨N, hn⟩ : ∃ N, B.length = N := ⟨_, rfl⟩
 obtain ⟨t, ht⟩ : ∃ t, T.length = t := ⟨_, rfl⟩
 have hi : c < N := by omega
 have hmu := hok.mu_le
 obtain ⟨⟨l0, s0⟩, hL⟩ : ∃ r, valsP E M s = r := ⟨_, rfl⟩
 rw [hL]
 dsimp only
 cases M with
 | zero => omega
 | succ M =>
 rw [valsP] at hL
 refine b131.go 14 rfl fun hsm => ?_
 simp only [smw] at hsm
 simp only [W, seval, c131, hn, hi]
 obtain ⟨⟨x, s1⟩, hx⟩ : ∃ r, E s = r := ⟨_, rfl⟩
 have hpx := hE s hn1
 have hdx := (hd.at hx).le
 rw [hx] at hpx hL
 dsimp only at hpx hL
 refine PP.call0 hpx hc hok fun hok1 => ?_
 unfold exV
 refine ARun.go 8 ?_
 simp only [W, seval, c131, hn, hi, ht, mapD_nil, mapD_cons, Nat.reduceMul, rows8]
 refine ARun.token 3 [exD x] (by rfl) 8 (by omega) (ex1 x) ?_
 simp only [envS_put, ht]
 refine ARun.loopW (fun a : List ExT × Ps => (envS 15 [(0, .ptr c 0), (3, .sl (a.1.map exD) (.own t))], ⟨B.set c (bxP bs a.2), T ++ [(a.1.length, 8)]⟩)) (fun a => OkP bs a.2 ∧ mu a.2 < n ∧ a.1.length + mu a.2 ≤ mu s + 1 ∧ ∃ m, mu a.2 < m + 1 ∧ (match gotP a.2 [44] with
  | (false, s2) => (a.1, s2)
  | (true, s2) => (a.1 ++ (valsP E m s2).1, (valsP E m s2).2)) = (l0, s0)) (fun a => mu a.2) ([x], s1) ⟨hok1, by dsimp only; omega, by simp; omega, M, by dsimp only; omega, ?_⟩ ?_ rfl ?_
 ·dsimp only
  rw [← hL]
  obtain ⟨⟨b, s2⟩, hg⟩ : ∃ r, gotP s1 [44] = r := ⟨_, rfl⟩
  rw [hg]
  cases b
  ·rfl
  ·obtain ⟨⟨l3, s3⟩, h3⟩ : ∃ r, valsP E M s2 = r := ⟨_, rfl⟩
   simp only [h3]
   rfl
 ·skip
  refine Agree.env _ ?_
  simp only [agw, seval, hn]
  rfl
 rintro ⟨l, s1⟩ ⟨hok1, hn2, hle, m, hm, hr⟩ ih
 dsimp only at hok1 hn2 hle hm hr ih ⊢
 refine ARun.go 20 ?_
 simp only [W, seval, c131, hn, hi]
 obtain ⟨⟨b, s3⟩, hg_s3⟩ : ∃ r, gotP s1 [44] = r := ⟨_, rfl⟩
 have hp_s3 := got_pp bs h0 hl s1 [44]
 rw [hg_s3] at hp_s3
 dsimp only at hp_s3
 first
  | refine PP.call0 hp_s3 hc hok1 fun hok3 => ?_
  | refine PP.call hp_s3 hc hok1 fun hok3 => ?_
 rw [hg_s3] at hr
 cases b
 case' false =>
  dsimp only at hr
  obtain ⟨rfl, rfl⟩ := Prod.mk.inj hr
  refine ARun.go 60 ?_
  simp only [W, seval, c131]
  refine ARun.ret Tryz.func131 rfl (PF.retK (fun _ _ => rfl) ?_)
  refine ⟨?_, 0, hok3, rfl⟩
  simp only [W, seval, c131, wk, ht]
  simp
 case' true =>
  have hlt := got_lt hg_s3
  dsimp only at hr
  cases m with
  | zero => omega
  | succ m =>
  rw [valsP] at hr
  refine ARun.go 20 ?_
  simp only [W, seval, c131, hn, hi]
  obtain ⟨⟨y, s4⟩, hy⟩ : ∃ r, E s3 = r := ⟨_, rfl⟩
  have hpy := hE s3 (by omega)
  have hdy := (hd.at hy).le
  rw [hy] at hpy hr
  dsimp only at hpy hr
  refine PP.call0 hpy hc hok3 fun hok4 => ?_
  have hcap : (l.length + 1) * 128 ≤ 140737488355328 := by omega
  have hmap : l.map exD ++ [exD y] = (l ++ [y]).map exD := by simp
  have hlen : (l ++ [y]).length = l.length + 1 := by simp
  unfold exV
  refine ARun.go 60 ?_
  simp only [W, seval, c131, hn, hi, ht, mapD_nil, mapD_cons, Nat.reduceMul, rows8, hcap, hmap, ex1]
  refine ih (l ++ [y], s4) ⟨hok4, by dsimp only; omega, by dsimp only; omega, m, by dsimp only; omega, ?_⟩ (by dsimp only; omega) _ _ ?_ (by dsimp only; rw [hlen])
  ·dsimp only
   rw [← hr]
   obtain ⟨⟨b, s5⟩, hg⟩ : ∃ r, gotP s4 [44] = r := ⟨_, rfl⟩
   rw [hg]
   cases b
   ·rfl
   ·obtain ⟨⟨l6, s6⟩, h6⟩ : ∃ r, valsP E m s5 = r := ⟨_, rfl⟩
    simp only [h6]
    simp
  ·skip
   refine Agree.env _ ?_
   simp only [agw, seval, hn]
theorem head_pp (bs : List UInt8) {E : EP} {n : Nat} (hE : EOk bs E n) (s : Ps) (hn1 : mu s < n) :
 PP bs 129 [] s (.d (.sl [exD (headP E s).1])) (headP E s).2 := by
 intro c B T i hc hok
 obtain ⟨N, hn⟩ : ∃ N, B.length = N := ⟨_, rfl⟩
 have hi : c < N := by omega
 obtain ⟨⟨x, s1⟩, hx⟩ : ∃ r, E ⟨s.ws, s.e, s.o, true⟩ = r := ⟨_, rfl⟩
 have hpx := hE ⟨s.ws, s.e, s.o, true⟩ hn1
 unfold headP
 rw [hx] at hpx ⊢
 dsimp only at hpx ⊢
 refine b129.go 30 rfl fun hsm => ?_
 simp only [smw] at hsm
 simp only [W, seval, c129, hn, hi, bxP]
 refine PP.call0 hpx hc (ok_same hok rfl fun h => h) fun hok1 => ?_
 unfold exV
 refine ARun.go 60 ?_
 simp only [W, seval, c129, hn, hi, bxP, mapD_nil, mapD_cons, Nat.reduceMul, rows8]
 refine ARun.ret Tryz.func129 rfl (PF.retJ (fun _ _ => rfl) ?_)
 exact ⟨rfl, 0, ok_same hok1 rfl fun h => h, rfl⟩
set_option maxHeartbeats 4000000 in
theorem keyed_pp (bs : List UInt8) (h0 : True) (hl : bs.length ≤ 100000) {E : EP} {n : Nat} (hE : EOk bs E n) (hd : DnE E) (s : Ps) (hk : s.e = 0 → ¬ s.w.kind = 0) (hn1 : mu (nextP s) < n) :
 PP bs 125 [] s (exV (keyedP E s).1) (keyedP E s).2 := by
 intro c B T i hc hok
 obtain ⟨N, hn⟩ : ∃ N, B.length = N := ⟨_, rfl⟩
 have hi : c < N := by omega
 have hi2 : c < N + 2 := by omega
 obtain ⟨K, hK⟩ : ∃ K, keyedP E s = K := ⟨_, rfl⟩
 rw [hK]
 unfold keyedP at hK
 refine b125.go 30 rfl fun hsm => ?_
 simp only [smw] at hsm
 simp only [W, seval, c125, hn, hi, bxP]
 refine PP.call (next_pp bs h0 hl s hk) hc hok fun hok1 => ?_
 by_cases h1 : s.w.text = [116, 114, 117, 101]
 ·rw [if_pos h1] at hK
  subst hK
  have e1 := decide_eq_true h1
  refine ARun.go 60 ?_
  simp only [W, seval, c125, hn, hi, e1]
  refine retc (v := ?_) Tryz.func125 (by rfl) ?_ ?_
  rotate_left
  ·simp only [W, seval, c125, hn, hi]
   exact rfl
  refine PF.retJ (fun _ _ => rfl) ?_
  exact ⟨rfl, 0, hok1, rfl⟩
 rw [if_neg h1] at hK
 have e1 := decide_eq_false h1
 by_cases h2 : s.w.text = [102, 97, 108, 115, 101]
 ·rw [if_pos h2] at hK
  subst hK
  have e2 := decide_eq_true h2
  refine ARun.go 60 ?_
  simp only [W, seval, c125, hn, hi, e1, e2]
  refine retc (v := ?_) Tryz.func125 (by rfl) ?_ ?_
  rotate_left
  ·simp only [W, seval, c125, hn, hi]
   exact rfl
  refine PF.retJ (fun _ _ => rfl) ?_
  exact ⟨rfl, 0, hok1, rfl⟩
 rw [if_neg h2] at hK
 have e2 := decide_eq_false h2
 refine ARun.go 60 ?_
 simp only [W, seval, c125, hn, hi, e1, e2]
 refine PP.callm (want_pp bs h0 hl (nextP s) [40]) hc hok1 fun hok2 => ?_
 have hd2 := (dn_want (nextP s) [40]).le
 obtain ⟨⟨x, s3⟩, hx⟩ : ∃ r, E (wantP (nextP s) [40]) = r := ⟨_, rfl⟩
 have hpx := hE (wantP (nextP s) [40]) (by omega)
 have hdx := (hd.at hx).le
 rw [hx] at hpx hK
 dsimp only at hpx hK
 refine ARun.go 20 ?_
 simp only [W, seval, c125, hn, hi]
 refine PP.call hpx hc hok2 fun hok3 => ?_
 unfold exV
 refine ARun.go 60 ?_
 simp only [W, seval, c125, hn, hi, mapD_nil, mapD_cons, Nat.reduceMul, rows8]
 refine callS_fn (basic_ab s.w.text _) ?_
 rintro _ _ ⟨rfl, rfl⟩
 by_cases h3 : s.w.text = [97, 112, 112, 101, 110, 100]
 ·have e3 := decide_eq_true h3
  refine ARun.go 60 ?_
  simp only [W, seval, c125, hn, hi, e3]
  refine PP.callm (want_pp bs h0 hl s3 [44]) hc hok3 fun hok4 => ?_
  have hd4 := (dn_want s3 [44]).le
  obtain ⟨⟨y, s5⟩, hy⟩ : ∃ r, E (wantP s3 [44]) = r := ⟨_, rfl⟩
  have hpy := hE (wantP s3 [44]) (by omega)
  rw [hy] at hpy hK
  dsimp only at hpy
  refine ARun.go 6 ?_
  simp only [W, seval, c125, hn, hi]
  refine PP.wit hpy hc hok4 (haN 1 (by rfl)) fun hok5 => ?_
  unfold exV at hpy
  have hrows : rowsSz 8 [exD x] = true := ex1 x
  have hr1 : rowsSz 8 [exD y] = true := ex1 y
  refine ARun.drawE 6 [3, 5, 7] (fun S => S.boxes[N + 1]? = some [V.d (D.int IntKind.i64 13), V.d (D.str []), V.d (D.int IntKind.u64 0), V.d (D.int IntKind.i64 0), V.d (D.str []), V.sl [] Tok.full, V.sl [] Tok.full, V.sl [exD x] Tok.full]) (by kernel_rfl) (by kernel_rfl) (by kernel_rfl) (by kernel_rfl) (by kernel_rfl) ?_
  simp only [W, seval, c125]
  refine lexC_q (v := ?_) (by rfl) (by kernel_rfl) (fun S hS => ?_) ?_
  rotate_left
  ·simp only [W, seval, c125]
   exact rfl
  simp only [W, seval, c125]
  refine lexC_q (v := ?_) (by rfl) (by kernel_rfl) (fun S hS => ?_) ?_
  rotate_left
  ·try dsimp only at hS
   simp only [W, seval, c125, hS]
   exact rfl
  simp only [W, seval, c125]
  refine lexC_q (v := ?_) (by rfl) (by kernel_rfl) (fun S hS => ?_) ?_
  rotate_left
  ·simp only [W, seval, c125]
   exact rfl
  simp only [W, seval, c125]
  refine PP.lexc (hpy) hc hok4 hok5 ?_ (by rfl) (by kernel_rfl) ?_ ?_
  ·first | trivial | simp [bx_loc, bx_loc0, hn]
  ·simp only [W, seval, c125]
   exact ⟨_, _, rfl, rfl, by rfl, by simp only [W, seval, c125]⟩
  simp only [W, seval, c125]
  refine lexC_q (v := ?_) (by rfl) (by kernel_rfl) (fun S hS => ?_) ?_
  rotate_left
  ·simp only [W, seval, c125, mapD_nil, mapD_cons, Nat.reduceMul, rows8]
   exact rfl
  simp only [W, seval, c125]
  refine lexC_w (v := ?_) (S' := ?_) ?_ (by rfl) (by kernel_rfl) ?_ ?_
  rotate_left 2
  ·first | trivial | simp [bx_loc, bx_loc0, hn, hrows, hr1, Nat.reduceMul]
  ·simp only [W, seval, c125, hn, hrows, hr1, Nat.reduceMul]
   exact rfl
  simp only [W, seval, c125]
  refine lexC_end (by simp [bx_loc, hn]) ?_
  refine lexC_q (v := ?_) (by rfl) (by kernel_rfl) (fun S hS => ?_) ?_
  rotate_left
  ·simp only [W, seval, c125]
   exact rfl
  simp only [W, seval, c125]
  refine lexC_w (v := ?_) (S' := ?_) ?_ (by rfl) (by kernel_rfl) ?_ ?_
  rotate_left 2
  ·first | trivial | simp [bx_loc, bx_loc0, hn]
  ·simp only [W, seval, c125, hn]
   exact rfl
  simp only [W, seval, c125]
  refine lexC_end trivial ?_
  rw [if_pos h3] at hK
  subst hK
  refine ARun.go 20 ?_
  simp only [W, seval, c125, hn, hi]
  refine PP.callm (want_pp bs h0 hl s5 [41]) hc hok5 fun hok6 => ?_
  refine ARun.go 60 ?_
  simp only [W, seval, c125, hn, hi]
  refine retc (v := ?_) Tryz.func125 (by rfl) ?_ ?_
  rotate_left
  ·simp only [W, seval, c125, hn, hi]
   exact rfl
  refine PF.ret (fun _ _ => rfl) ?_
  refine ⟨?_, 0, hok6, rfl⟩
  simp only [W, seval, c125, wk, wkL, exV, List.length_set, Nat.lt_irrefl]
  rfl
 ·rw [if_neg h3] at hK
  have e3 := decide_eq_false h3
  by_cases h4 : 1 < kindS s.w.text
  ·rw [if_pos h4] at hK
   subst hK
   have e4 := decide_eq_true h4
   refine ARun.go 60 ?_
   simp only [W, seval, c125, hn, hi, e3, e4]
   refine PP.callm (want_pp bs h0 hl s3 [41]) hc hok3 fun hok4 => ?_
   refine ARun.go 60 ?_
   simp only [W, seval, c125, hn, hi]
   refine retc (v := ?_) Tryz.func125 (by rfl) ?_ ?_
   rotate_left
   ·simp only [W, seval, c125, hn, hi]
    exact rfl
   refine PF.retJ (fun _ _ => rfl) ?_
   exact ⟨rfl, 0, hok4, rfl⟩
  ·rw [if_neg h4] at hK
   subst hK
   have e4 := decide_eq_false h4
   refine ARun.go 60 ?_
   simp only [W, seval, c125, hn, hi, e3, e4]
   refine PP.callm (want_pp bs h0 hl s3 [41]) hc hok3 fun hok4 => ?_
   refine ARun.go 60 ?_
   simp only [W, seval, c125, hn, hi]
   refine retc (v := ?_) Tryz.func125 (by rfl) ?_ ?_
   rotate_left
   ·simp only [W, seval, c125, hn, hi]
    exact rfl
   refine PF.retJ (fun _ _ => rfl) ?_
   exact ⟨rfl, 0, hok4, rfl⟩
def c36 := by
 have c := KK_of Tryz.f36 (by conv => lhs; cbv)
 dsimp only [KK, KxP, doO, opO, List.map_cons, List.map_nil, List.toList_toArray] at c
 exact c
theorem b36 : FnIs Tryz.prog 36 Tryz.f36 61 := ⟨Tryz.func36, by kernel_rfl⟩
def OOk (bs : List UInt8) (O : EP) (n : Nat) : Prop := ∀ s, mu s < n → PP bs 69 [] s (exV (O s).1) (O s).2
def exL (x : ExT) : List V := [.d (.int .i64 x.kind), .d (.str x.text), .d (.int .u64 x.int), .d (.int .i64 x.type.kind), .d (.str x.type.name), .d (.sl (x.type.elem.map tyD)), .d (.sl (ssD x.names)), .d (.sl (x.kids.map exD))]
set_option maxHeartbeats 4000000 in
theorem climb_pp (bs : List UInt8) (h0 : True) (hl : bs.length ≤ 100000) {O : EP} {n : Nat} (hO : OOk bs O n) (hd : DnE O) (m : Nat) (hnm : n ≤ m) : ∀ (k : Nat), k ≤ 5 → ∀ (r : Int), r = 6 - (k : Int) → ∀ s, mu s < n →
 PP bs 36 [.d (.int .i64 r)] s (exV (climbP O m k s).1) (climbP O m k s).2
 | 0, _, r, hr, s, hs => by
  intro c B T i hc hok
  obtain ⟨N, hn⟩ : ∃ N, B.length = N := ⟨_, rfl⟩
  have hi : c < N := by omega
  have hr6 : r = 6 := by omega
  subst hr6
  rw [climbP]
  refine b36.go 40 rfl fun hsm => ?_
  simp only [smw] at hsm
  simp only [W, seval, c36, hn, hi]
  refine PP.call (hO s hs) hc hok fun hok1 => ?_
  unfold exV
  refine ARun.go 40 ?_
  simp only [W, seval, c36, hn, hi]
  refine retc (v := ?_) Tryz.func36 (by rfl) ?_ ?_
  rotate_left
  ·simp only [W, seval, c36, hn, hi]
   exact rfl
  refine PF.retJ (fun _ _ => rfl) ?_
  exact ⟨rfl, 0, hok1, rfl⟩
 | k + 1, hk, r, hr, s, hs => by
  intro c B T i hc hok
  obtain ⟨N, hn⟩ : ∃ N, B.length = N := ⟨_, rfl⟩
  have hi : c < N := by omega
  have hr5 : decide (5 < r) = false := decide_eq_false (by omega)
  by_cases he : s.e = 0
  case neg =>
   have e1 := decide_eq_false he
   rw [climbP, if_pos he]
   refine b36.go 60 rfl fun hsm => ?_
   simp only [smw] at hsm
   simp only [W, seval, c36, hn, hi, bxP, hr5, e1]
   refine PP.call (hO s hs) hc hok fun hok1 => ?_
   unfold exV
   refine ARun.go 40 ?_
   simp only [W, seval, c36, hn, hi]
   refine retc (v := ?_) Tryz.func36 (by rfl) ?_ ?_
   rotate_left
   ·simp only [W, seval, c36, hn, hi]
    exact rfl
   refine PF.retJ (fun _ _ => rfl) ?_
   exact ⟨rfl, 0, hok1, rfl⟩
  case pos =>
   have e1 := decide_eq_true he
   have hw := wrap_in (r + 1) (by omega)
   have hI := climb_pp bs h0 hl hO hd m hnm k (by omega) (r + 1) (by omega)
   have hDc := dn_climb hd m k
   obtain ⟨⟨x, s1⟩, hx⟩ : ∃ z, climbP O m k s = z := ⟨_, rfl⟩
   have hpx := hI s hs
   have hdx := (hDc.at hx).le
   obtain ⟨⟨y0, s0⟩, hres⟩ : ∃ z, climbP O m (k + 1) s = z := ⟨_, rfl⟩
   rw [hres]
   dsimp only
   rw [climbP, if_neg (by simpa using he), hx] at hres
   rw [hx] at hpx
   dsimp only at hres hpx
   have hr' : (5 - (k : Int)) = r := by omega
   rw [hr'] at hres
   refine b36.go 60 rfl fun hsm => ?_
   simp only [smw] at hsm
   simp only [W, seval, c36, hn, hi, bxP, hr5, e1, hw]
   refine PP.call hpx hc hok fun hok1 => ?_
   unfold exV
   refine ARun.go 6 ?_
   simp only [W, seval, c36, hn, hi]
   refine ARun.after [_, _] _ (fun _ : Unit => (envS 61 [(4, .ptr N 0), (5, .ptr (N + 1) 0)], ⟨B.set c (bxP bs s0) ++ [[.d (.int .i64 0), .d (.str []), .d (.int .u64 0), .d (.int .i64 0), .d (.str []), .sl [] .full, .sl [] .full, .sl [] .full], exL y0], T⟩)) (fun _ => OkP bs s0) ?_ ?_
   ·rintro ⟨⟩ hok0
    refine ARun.go 20 ?_
    simp only [W, seval, c36, hn, hi, exL]
    refine retc (v := ?_) Tryz.func36 (by rfl) ?_ ?_
    rotate_left
    ·simp only [W, seval, c36, hn, hi]
     exact rfl
    refine PF.retJ (fun _ _ => rfl) ?_
    exact ⟨rfl, 0, hok0, rfl⟩
   intro K' hend
   refine ARun.loopW (fun a : ExT × Ps => (envS 61 [(0, .ptr c 0), (1, .d (.int .i64 r)), (4, .ptr N 0), (5, .ptr (N + 1) 0)], ⟨B.set c (bxP bs a.2) ++ [[.d (.int .i64 0), .d (.str []), .d (.int .u64 0), .d (.int .i64 0), .d (.str []), .sl [] .full, .sl [] .full, .sl [] .full], exL a.1], T⟩)) (fun a => OkP bs a.2 ∧ mu a.2 < n ∧ ∃ m', mu a.2 < m' ∧ rankL (climbP O m k) r m' a.1 a.2 = (y0, s0)) (fun a => mu a.2) (x, s1) ⟨hok1, by dsimp only; omega, m, by dsimp only; omega, hres⟩ ?_ rfl ?_
   ·skip
    refine Agree.env _ ?_
    simp only [agw, seval, hn]
   clear hres hpx hdx hx hok1 he e1
   rintro ⟨x, s1⟩ ⟨hok1, hn2, m', hm, hr2⟩ ih
   dsimp only at hok1 hn2 hm hr2 ih ⊢
   cases m' with
   | zero => omega
   | succ m' =>
   rw [rankL] at hr2
   by_cases hc1 : s1.e = 0 ∧ s1.w.kind = 3 ∧ rankS s1.w.text = r
   case pos =>
    rw [if_pos hc1] at hr2
    have e1 := decide_eq_true hc1.1
    have e3 : decide ((s1.w.kind : Int) = 3) = true := decide_eq_true (by omega)
    have e5 := decide_eq_true hc1.2.2
    have hnl := next_lt s1 hc1.1 (by omega)
    obtain ⟨⟨y, s4⟩, hy⟩ : ∃ z, climbP O m k (nextP s1) = z := ⟨_, rfl⟩
    have hpy := hI (nextP s1) (by omega)
    have hdy := (hDc.at hy).le
    rw [hy] at hr2 hpy
    dsimp only at hr2 hpy
    refine ARun.goK (k := [_, _, _]) 60 ?_
    simp only [W, seval, c36, hn, hi, bxP, e1, e3]
    refine callS_fn (rank_ab s1.w.text _ _) ?_
    rintro _ _ ⟨rfl, rfl⟩
    refine ARun.goK 60 ?_
    simp only [W, seval, c36, hn, hi, bxP, e5]
    refine PP.call (next_pp bs h0 hl s1 fun _ => by omega) hc hok1 fun hok3 => ?_
    refine ARun.goK 5 ?_
    simp only [W, seval, c36, hn, hi]
    unfold exV at hpy
    refine PP.wit hpy hc hok3 (haN (r + 1) (by rfl)) fun hok5 => ?_
    refine ARun.drawE 8 [5, 8] (fun S => S.boxes[N + 1]? = some (exL x)) (by kernel_rfl) (by kernel_rfl) (by kernel_rfl) (by kernel_rfl) (by kernel_rfl) ?_
    simp only [W, seval, c36]
    refine lexC_q (v := ?_) (by rfl) (by kernel_rfl) (fun S hS => ?_) ?_
    rotate_left
    ·simp only [W, seval, c36]
     exact rfl
    simp only [W, seval, c36]
    refine lexC_q (v := ?_) (by rfl) (by kernel_rfl) (fun S hS => ?_) ?_
    rotate_left
    ·try dsimp only at hS
     simp only [W, seval, c36, hS, exL]
     exact rfl
    simp only [W, seval, c36]
    refine lexC_q (v := ?_) (by rfl) (by kernel_rfl) (fun S hS => ?_) ?_
    rotate_left
    ·simp only [W, seval, c36]
     exact rfl
    simp only [W, seval, c36]
    refine lexC_q (v := ?_) (by rfl) (by kernel_rfl) (fun S hS => ?_) ?_
    rotate_left
    ·simp only [W, seval, c36]
     exact rfl
    simp only [W, seval, c36]
    refine lexC_q (v := ?_) (by rfl) (by kernel_rfl) (fun S hS => ?_) ?_
    rotate_left
    ·simp only [W, seval, c36, hw]
     exact rfl
    simp only [W, seval, c36]
    refine PP.lexc (hpy) hc hok3 hok5 ?_ (by rfl) (by kernel_rfl) ?_ ?_
    ·first | trivial | simp [bx_loc, bx_loc0, hn]
    ·simp only [W, seval, c36]
     exact ⟨_, _, rfl, rfl, by rfl, by simp only [W, seval, c36]⟩
    simp only [W, seval, c36]
    refine lexC_q (v := ?_) (by rfl) (by kernel_rfl) (fun S hS => ?_) ?_
    rotate_left
    ·simp only [W, seval, c36, mapD_nil, mapD_cons, Nat.reduceMul, rows8]
     exact rfl
    simp only [W, seval, c36]
    refine lexC_q (v := ?_) (by rfl) (by kernel_rfl) (fun S hS => ?_) ?_
    rotate_left
    ·simp only [W, seval, c36]
     exact rfl
    simp only [W, seval, c36]
    refine lexC_end (by simp [bx_loc, hn]) ?_
    refine lexC_w (v := ?_) (S' := ?_) ?_ (by rfl) (by kernel_rfl) ?_ ?_
    rotate_left 2
    ·first | trivial | simp [bx_loc, bx_loc0, hn, exL]
    ·simp only [W, seval, c36, hn, exL]
     exact rfl
    simp only [W, seval, c36]
    refine lexC_end trivial ?_
    refine ARun.plainJ 1 _ (exL (.mk 6 s1.w.text 0 noT [] [x, y])) (by rfl) (.same (.same (.same (.same (.same (.sl (.sl (.sl .nil)))))))) ?_
    refine ARun.goK (k := [_, _, _]) 1 ?_
    simp only [W, seval, c36]
    refine ih (.mk 6 s1.w.text 0 noT [] [x, y], s4) ⟨hok5, by dsimp only; omega, m', by dsimp only; omega, hr2⟩ (by dsimp only; omega) _ _ ?_ rfl
    refine Agree.env _ ?_
    simp only [agw, seval, hn]
   case neg =>
    rw [if_neg hc1] at hr2
    obtain ⟨rfl, rfl⟩ := Prod.mk.inj hr2
    by_cases he : s1.e = 0
    ·have e1 := decide_eq_true he
     by_cases hk3 : s1.w.kind = 3
     ·have e3 : decide ((s1.w.kind : Int) = 3) = true := decide_eq_true (by omega)
      have e5 := decide_eq_false fun h => hc1 ⟨he, hk3, h⟩
      refine ARun.goK (k := [_, _, _]) 60 ?_
      simp only [W, seval, c36, hn, hi, bxP, e1, e3]
      refine callS_fn (rank_ab s1.w.text _ _) ?_
      rintro _ _ ⟨rfl, rfl⟩
      refine ARun.goK 60 ?_
      simp only [W, seval, c36, hn, hi, bxP, e5]
      refine hend () hok1 _ _ ?_ rfl
      refine Agree.env _ ?_
      simp only [agw, seval, hn]
     ·have e3 : decide ((s1.w.kind : Int) = 3) = false := decide_eq_false (by omega)
      refine ARun.goK (k := [_, _, _]) 60 ?_
      simp only [W, seval, c36, hn, hi, bxP, e1, e3]
      refine hend () hok1 _ _ ?_ rfl
      refine Agree.env _ ?_
      simp only [agw, seval, hn]
    ·have e1 := decide_eq_false he
     refine ARun.goK (k := [_, _, _]) 60 ?_
     simp only [W, seval, c36, hn, hi, bxP, e1]
     refine hend () hok1 _ _ ?_ rfl
     refine Agree.env _ ?_
     simp only [agw, seval, hn]
def c69 := by
 have c := KK_of Tryz.f69 (by conv => lhs; cbv)
 dsimp only [KK, KxP, doO, opO, List.map_cons, List.map_nil, List.toList_toArray] at c
 exact c
theorem b69 : FnIs Tryz.prog 69 Tryz.f69 74 := ⟨Tryz.func69, by kernel_rfl⟩
def sgD (l : List Int) : List (List D) := l.map fun k => [.int .i64 k]
theorem sgD_len (l : List Int) : (sgD l).length = l.length := by simp [sgD]
theorem sgD_app (l : List Int) (k : Int) : sgD l ++ [[.int .i64 k]] = sgD (l ++ [k]) := by simp [sgD]
theorem sg1 (k : Int) : rowsSz 1 [[D.int .i64 k]] = true := rfl
theorem sgD_get (l : List Int) (i : Nat) : (sgD l)[i]? = (l[i]?).map fun k => [.int .i64 k] := by simp [sgD]
theorem fits_pf {B J : List (List V)} {T K : List (Nat × Nat)} {c : Nat} {x y : List V} (hf : Fits ⟨B.set c x, T⟩) (hy : ∀ n m, y.all (fit n m) = true) (hJ : ∀ vs ∈ J, ∀ n m, vs.all (fit n m) = true) : Fits ⟨B.set c y ++ J, T ++ K⟩ := by
 have h1 := Fits.set hf (i := c) (hy (B.set c x).length T.length)
 rw [List.set_set] at h1
 exact h1.more fun vs hvs => hJ vs hvs _ _
theorem sign_app : ∀ (l : List Int) (k : Int) (x : ExT), signT (l ++ (some k).toList) x = signT l (.mk k [] 0 noT [] [x])
 | [], k, x => rfl
 | j :: l, k, x => by
  show ExT.mk j [] 0 noT [] [signT (l ++ (some k).toList) x] = _
  rw [sign_app l k x]
  rfl
def operQ (P E : EP) (m : Nat) : EP := fun s => match sgnL m s with
 | (l, s1) => match P s1 with
  | (x, s2) => match pstL E m x s2 with
   | (y, s3) => (signT l y, s3)
set_option maxHeartbeats 8000000 in
theorem oper_pp (bs : List UInt8) (h0 : True) (hl : bs.length ≤ 100000) {P E : EP} {n : Nat} (hP : ∀ s, mu s ≤ n → PP bs 97 [] s (exV (P s).1) (P s).2) (hdP : DnE P) (hE : EOk bs E n) (hdE : DnE E) (m : Nat) (hnm : n < m) (s : Ps) (hs : mu s ≤ n) :
 PP bs 69 [] s (exV (operQ P E m s).1) (operQ P E m s).2 := by
 intro c B T i hc hok
 obtain ⟨N, hn⟩ : ∃ N, B.length = N := ⟨_, rfl⟩
 obtain ⟨t, ht⟩ : ∃ t, T.length = t := ⟨_, rfl⟩
 have hi : c < N := by omega
 have hi2 : c < N + 2 := by omega
 have hN1 : N < N + 2 := by omega
 have hN2 : N + 1 < N + 2 := by omega
 have ht1 : t < t + 1 := by omega
 have hmu := hok.mu_le
 obtain ⟨⟨l0, s0⟩, hL⟩ : ∃ r, sgnL m s = r := ⟨_, rfl⟩
 obtain ⟨⟨x0, s2⟩, hX⟩ : ∃ r, P s0 = r := ⟨_, rfl⟩
 obtain ⟨⟨y0, s3⟩, hY⟩ : ∃ r, pstL E m x0 s2 = r := ⟨_, rfl⟩
 have hres : operQ P E m s = (signT l0 y0, s3) := by unfold operQ; rw [hL]; dsimp only; rw [hX]; dsimp only; rw [hY]
 rw [hres]
 dsimp only
 have hd1 := (dn_sgn m hL).le
 have hpx := hP s0 (by omega)
 have hd2 := (hdP.at hX).le
 rw [hX] at hpx
 dsimp only at hpx
 refine b69.go 0 rfl fun hsm => ?_
 simp only [smw] at hsm
 simp only [W, seval, c69, hn, hi]
 refine ARun.fits fun hf => ?_
 refine ARun.go 14 ?_
 simp only [W, seval, c69, hn, hi]
 refine ARun.token 3 [] (by rfl) 1 (by omega) rfl ?_
 simp only [envS_put, ht]
 refine ARun.after [_, _] _ (fun _ : Unit => (envS 74 [(0, .ptr c 0), (2, .ptr N 0), (3, .sl (sgD l0) (.own t))], ⟨B.set c (bxP bs s0) ++ [[.d (.int .i64 0), .d (.str []), .d (.int .u64 0), .d (.int .i64 0), .d (.str []), .sl [] .full, .sl [] .full, .sl [] .full]], T ++ [(l0.length, 1)]⟩)) (fun _ => OkP bs s0 ∧ l0.length ≤ mu s) ?_ ?_
 case refine_2 =>
  intro K' hend
  refine ARun.loopW (fun a : List Int × Ps => (envS 74 [(0, .ptr c 0), (2, .ptr N 0), (3, .sl (sgD a.1) (.own t))], ⟨B.set c (bxP bs a.2) ++ [[.d (.int .i64 0), .d (.str []), .d (.int .u64 0), .d (.int .i64 0), .d (.str []), .sl [] .full, .sl [] .full, .sl [] .full]], T ++ [(a.1.length, 1)]⟩)) (fun a => OkP bs a.2 ∧ a.1.length + mu a.2 ≤ mu s ∧ ∃ m', mu a.2 < m' ∧ (a.1 ++ (sgnL m' a.2).1, (sgnL m' a.2).2) = (l0, s0)) (fun a => mu a.2) ([], s) ⟨hok, by simp, m, by dsimp only; omega, by dsimp only; rw [hL, List.nil_append]⟩ ?_ rfl ?_
  ·skip
   refine Agree.env _ ?_
   simp only [agw, seval, hn]
   trivial
  rintro ⟨l, s1⟩ ⟨hok1, hle, m', hm, hr⟩ ih
  dsimp only at hok1 hle hm hr ih ⊢
  cases m' with
  | zero => omega
  | succ m' =>
  rw [sgnL] at hr
  have hstep : ∀ k : Int, mu (nextP s1) < mu s1 → (l ++ (k :: (sgnL m' (nextP s1)).1), (sgnL m' (nextP s1)).2) = (l0, s0) → OkP bs (nextP s1) → OkP bs (nextP s1) ∧ (l ++ [k]).length + mu (nextP s1) ≤ mu s ∧ ∃ m', mu (nextP s1) < m' ∧ ((l ++ [k]) ++ (sgnL m' (nextP s1)).1, (sgnL m' (nextP s1)).2) = (l0, s0) := fun k h1 h2 h3 => ⟨h3, by simp; omega, m', by omega, by rw [← h2]; simp⟩
  have hlen : ∀ k : Int, (l ++ [k]).length = l.length + 1 := fun k => by simp
  have hcap : (l.length + 1) * 8 ≤ 140737488355328 := by omega
  refine ARun.goK (k := [_, _, _]) 20 ?_
  simp only [W, seval, c69, hn, hi]
  refine PP.call (is_pp bs s1 [33]) hc hok1 fun _ => ?_
  cases h1 : isP s1 [33]
  case' true =>
   have hlv := is_live h1
   have hnx := next_lt s1 hlv.1 (by omega)
   have ht45 : decide (s1.w.text = [45]) = false := by rw [hlv.2.2]; rfl
   rw [if_pos h1] at hr
   refine ARun.goK 60 ?_
   simp only [W, seval, c69, hn, hi, bxP, ht45, ht, sgD_len, sgD_app, sg1, hcap, mapD_nil, mapD_cons, Nat.reduceMul]
   refine PP.call (next_pp bs h0 hl s1 fun _ => by omega) hc hok1 fun hok3 => ?_
   refine ARun.goK 20 ?_
   simp only [W, seval, c69, hn, hi]
   refine ih (l ++ [4], nextP s1) (hstep 4 hnx hr hok3) (by dsimp only; omega) _ _ ?_ (by dsimp only; rw [hlen])
   refine Agree.env _ ?_
   simp only [agw, seval, hn]
  case' false =>
   rw [if_neg (by rw [h1]; simp)] at hr
   refine ARun.goK 60 ?_
   simp only [W, seval, c69, hn, hi]
   refine PP.call (is_pp bs s1 [45]) hc hok1 fun _ => ?_
   cases h2 : isP s1 [45]
   case' true =>
    have hlv := is_live h2
    have hnx := next_lt s1 hlv.1 (by omega)
    have ht45 : decide (s1.w.text = [45]) = true := by rw [hlv.2.2]; rfl
    rw [if_pos h2] at hr
    refine ARun.goK 60 ?_
    simp only [W, seval, c69, hn, hi, bxP, ht45, ht, sgD_len, sgD_app, sg1, hcap, mapD_nil, mapD_cons, Nat.reduceMul]
    refine PP.call (next_pp bs h0 hl s1 fun _ => by omega) hc hok1 fun hok3 => ?_
    refine ARun.goK 20 ?_
    simp only [W, seval, c69, hn, hi]
    refine ih (l ++ [5], nextP s1) (hstep 5 hnx hr hok3) (by dsimp only; omega) _ _ ?_ (by dsimp only; rw [hlen])
    refine Agree.env _ ?_
    simp only [agw, seval, hn]
   case' false =>
    rw [if_neg (by rw [h2]; simp)] at hr
    dsimp only at hr
    rw [List.append_nil] at hr
    obtain ⟨rfl, rfl⟩ := Prod.mk.inj hr
    refine ARun.goK 60 ?_
    simp only [W, seval, c69, hn, hi]
    refine hend () ⟨hok1, by omega⟩ _ _ ?_ rfl
    refine Agree.env _ ?_
    simp only [agw, seval, hn]
 rintro ⟨⟩ ⟨hok0, hl0⟩
 refine ARun.go 6 ?_
 simp only [W, seval, c69, hn, hi]
 refine PP.call hpx hc hok0 fun hok2 => ?_
 unfold exV
 refine ARun.go 9 ?_
 simp only [W, seval, c69, hn, hi]
 refine ARun.after [_, _] _ (fun _ : Unit => (envS 74 [(0, .ptr c 0), (2, .ptr N 0), (3, .sl (sgD l0) (.own t)), (5, .ptr (N + 1) 0)], ⟨B.set c (bxP bs s3) ++ [[.d (.int .i64 0), .d (.str []), .d (.int .u64 0), .d (.int .i64 0), .d (.str []), .sl [] .full, .sl [] .full, .sl [] .full], exL y0], T ++ [(l0.length, 1)]⟩)) (fun _ => OkP bs s3) ?_ ?_
 case refine_2 =>
  intro K' hend
  refine ARun.loopA (fun a : ExT × Ps => (envS 74 [(0, .ptr c 0), (2, .ptr N 0), (3, .sl (sgD l0) (.own t)), (5, .ptr (N + 1) 0)], ⟨B.set c (bxP bs a.2) ++ [[.d (.int .i64 0), .d (.str []), .d (.int .u64 0), .d (.int .i64 0), .d (.str []), .sl [] .full, .sl [] .full, .sl [] .full], exL a.1], T ++ [(l0.length, 1)]⟩)) (fun a => OkP bs a.2 ∧ mu a.2 ≤ n ∧ ∃ m', mu a.2 < m' ∧ pstL E m' a.1 a.2 = (y0, s3)) (fun a => mu a.2) (x0, s2) ⟨hok2, by dsimp only; omega, m, by dsimp only; omega, hY⟩ ?_ rfl ?_
  ·skip
   refine Agree.env _ ?_
   simp only [agw, seval, hn]
  rintro ⟨x, s1⟩ ⟨hok1, hn2, m', hm, hr⟩ ih0
  dsimp only at hok1 hn2 hm hr ih0 ⊢
  have ih : ∀ b : ExT × Ps, OkP bs b.2 ∧ mu b.2 ≤ n ∧ (∃ m', mu b.2 < m' ∧ pstL E m' b.1 b.2 = (y0, s3)) → mu b.2 < mu s1 → ∀ (K : List (Nat × Nat)) (u : List (Nat × V)), AgreeF (N + 2) (t + 1) u [(0, .ptr c 0), (2, .ptr N 0), (3, .sl (sgD l0) (.own t)), (5, .ptr (N + 1) 0)] → ARun Tryz.prog TabI (N, t) 69 ([.inLoop (kF Tryz.f69 30), .inBlock 2] ++ K') (envS 74 u) ⟨B.set c (bxP bs b.2) ++ [[.d (.int .i64 0), .d (.str []), .d (.int .u64 0), .d (.int .i64 0), .d (.str []), .sl [] .full, .sl [] .full, .sl [] .full], exL b.1], T ++ ([(l0.length, 1)] ++ K)⟩ _ := fun b h1 h2 K u hu => by
   have := ih0 b h1 h2 (envS 74 u) _ [] _ K rfl ⟨by simp; omega, by simp; omega⟩ (fits_pf hf (fun _ _ => rfl) (by
    intro vs hvs
    simp only [List.mem_cons, List.not_mem_nil, or_false] at hvs
    rcases hvs with rfl | rfl <;> exact fun _ _ => rfl)) (by
    refine AgreeF.env _ ?_
    simpa [hn, ht] using hu)
   rw [List.append_nil, List.append_assoc] at this
   exact this
  clear ih0
  cases m' with
  | zero => omega
  | succ m' =>
  rw [pstL] at hr
  by_cases he : s1.e = 0
  case neg =>
   rw [if_pos he] at hr
   obtain ⟨rfl, rfl⟩ := Prod.mk.inj hr
   have e1 := decide_eq_false he
   refine ARun.goK (k := [_, _, _]) 60 ?_
   simp only [W, seval, c69, hn, hi, bxP, e1]
   refine hend () hok1 _ _ ?_ rfl
   refine Agree.env _ ?_
   simp only [agw, seval, hn]
  case pos =>
   rw [if_neg (by simpa using he)] at hr
   have e1 := decide_eq_true he
   refine ARun.goK (k := [_, _, _]) 60 ?_
   simp only [W, seval, c69, hn, hi, bxP, e1]
   obtain ⟨⟨b, s4⟩, hg_s4⟩ : ∃ r, gotP s1 [46] = r := ⟨_, rfl⟩
   have hp_s4 := got_pp bs h0 hl s1 [46]
   rw [hg_s4] at hp_s4
   dsimp only at hp_s4
   first
    | refine PP.call0 hp_s4 hc hok1 fun hok4 => ?_
    | refine PP.call hp_s4 hc hok1 fun hok4 => ?_
   rw [hg_s4] at hr
   cases b
   case' true =>
    have hlt := got_lt hg_s4
    dsimp only at hr
    obtain ⟨⟨tx, s5⟩, hnm5⟩ : ∃ r, nameP s4 = r := ⟨_, rfl⟩
    have hpn := name_pp bs h0 hl s4
    have hdn := (dn_name hnm5).le
    rw [hnm5] at hpn hr
    dsimp only at hpn hr
    refine ARun.goK 5 ?_
    simp only [W, seval, c69, hn, hi]
    refine PP.wit hpn hc hok4 (ha0 (by rfl)) fun hok5 => ?_
    refine ARun.drawE 5 [1, 5] (fun S => S.boxes[N + 1]? = some (exL x)) (by kernel_rfl) (by kernel_rfl) (by kernel_rfl) (by kernel_rfl) (by kernel_rfl) ?_
    simp only [W, seval, c69]
    refine lexC_q (v := ?_) (by rfl) (by kernel_rfl) (fun S hS => ?_) ?_
    rotate_left
    ·simp only [W, seval, c69]
     exact rfl
    simp only [W, seval, c69]
    refine PP.lexc (hpn) hc hok4 hok5 ?_ (by rfl) (by kernel_rfl) ?_ ?_
    ·first | trivial | simp [bx_loc, bx_loc0, hn]
    ·simp only [W, seval, c69]
     exact ⟨_, _, rfl, rfl, by rfl, by simp only [W, seval, c69]⟩
    simp only [W, seval, c69]
    refine lexC_q (v := ?_) (by rfl) (by kernel_rfl) (fun S hS => ?_) ?_
    rotate_left
    ·try dsimp only at hS
     simp only [W, seval, c69, hS, exL]
     exact rfl
    simp only [W, seval, c69]
    refine lexC_q (v := ?_) (by rfl) (by kernel_rfl) (fun S hS => ?_) ?_
    rotate_left
    ·simp only [W, seval, c69, mapD_nil, mapD_cons, Nat.reduceMul, rows8]
     exact rfl
    simp only [W, seval, c69]
    refine lexC_q (v := ?_) (by rfl) (by kernel_rfl) (fun S hS => ?_) ?_
    rotate_left
    ·simp only [W, seval, c69]
     exact rfl
    simp only [W, seval, c69]
    refine lexC_end (by simp [bx_loc, hn]) ?_
    refine lexC_w (v := ?_) (S' := ?_) ?_ (by rfl) (by kernel_rfl) ?_ ?_
    rotate_left 2
    ·first | trivial | simp [bx_loc, bx_loc0, hn, exL]
    ·simp only [W, seval, c69, hn, exL]
     exact rfl
    simp only [W, seval, c69]
    refine lexC_end trivial ?_
    refine ARun.plainJ 1 _ (exL (.mk 9 tx 0 noT [] [x])) (by rfl) (.same (.same (.same (.same (.same (.sl (.sl (.sl .nil)))))))) ?_
    refine ARun.goK (k := [_, _, _, _, _]) 10 ?_
    simp only [W, seval, c69]
    refine ih (.mk 9 tx 0 noT [] [x], s5) ⟨hok5, by dsimp only; omega, m', by dsimp only; omega, hr⟩ (by dsimp only; omega) [] _ ?_
    simp only [agf, seval, hi2, hN1, hN2, ht1]
   case' false =>
    have e4 := got_no hg_s4
    subst e4
    dsimp only at hr
    refine ARun.goK 20 ?_
    simp only [W, seval, c69, hn, hi]
    obtain ⟨⟨b, s5⟩, hg_s5⟩ : ∃ r, gotP s4 [91] = r := ⟨_, rfl⟩
    have hp_s5 := got_pp bs h0 hl s4 [91]
    rw [hg_s5] at hp_s5
    dsimp only at hp_s5
    first
     | refine PP.call0 hp_s5 hc hok4 fun hok5 => ?_
     | refine PP.call hp_s5 hc hok4 fun hok5 => ?_
    rw [hg_s5] at hr
    cases b
    case' false =>
     have e5 := got_no hg_s5
     subst e5
     dsimp only at hr
     obtain ⟨rfl, rfl⟩ := Prod.mk.inj hr
     refine ARun.goK 60 ?_
     simp only [W, seval, c69, hn, hi]
     refine hend () hok5 _ _ ?_ rfl
     refine Agree.env _ ?_
     simp only [agw, seval, hn]
    case' true =>
     have hlt := got_lt hg_s5
     dsimp only at hr
     obtain ⟨⟨y, s6⟩, hy⟩ : ∃ r, E s5 = r := ⟨_, rfl⟩
     have hpy := hE s5 (by omega)
     have hdy := (hdE.at hy).le
     rw [hy] at hpy hr
     dsimp only at hpy hr
     unfold exV at hpy
     refine ARun.goK 6 ?_
     simp only [W, seval, c69, hn, hi]
     refine PP.wit hpy hc hok5 (haN 1 (by rfl)) fun hok6 => ?_
     refine ARun.drawE 5 [2, 5] (fun S => S.boxes[N + 1]? = some (exL x)) (by kernel_rfl) (by kernel_rfl) (by kernel_rfl) (by kernel_rfl) (by kernel_rfl) ?_
     simp only [W, seval, c69]
     refine lexC_q (v := ?_) (by rfl) (by kernel_rfl) (fun S hS => ?_) ?_
     rotate_left
     ·try dsimp only at hS
      simp only [W, seval, c69, hS, exL]
      exact rfl
     simp only [W, seval, c69]
     refine lexC_q (v := ?_) (by rfl) (by kernel_rfl) (fun S hS => ?_) ?_
     rotate_left
     ·simp only [W, seval, c69]
      exact rfl
     simp only [W, seval, c69]
     refine PP.lexc (hpy) hc hok5 hok6 ?_ (by rfl) (by kernel_rfl) ?_ ?_
     ·first | trivial | simp [bx_loc, bx_loc0, hn]
     ·simp only [W, seval, c69]
      exact ⟨_, _, rfl, rfl, by rfl, by simp only [W, seval, c69]⟩
     simp only [W, seval, c69]
     refine lexC_q (v := ?_) (by rfl) (by kernel_rfl) (fun S hS => ?_) ?_
     rotate_left
     ·simp only [W, seval, c69, mapD_nil, mapD_cons, Nat.reduceMul, rows8]
      exact rfl
     simp only [W, seval, c69]
     refine lexC_q (v := ?_) (by rfl) (by kernel_rfl) (fun S hS => ?_) ?_
     rotate_left
     ·simp only [W, seval, c69]
      exact rfl
     simp only [W, seval, c69]
     refine lexC_end (by simp [bx_loc, hn]) ?_
     refine lexC_w (v := ?_) (S' := ?_) ?_ (by rfl) (by kernel_rfl) ?_ ?_
     rotate_left 2
     ·first | trivial | simp [bx_loc, bx_loc0, hn, exL]
     ·simp only [W, seval, c69, hn, exL]
      exact rfl
     simp only [W, seval, c69]
     refine lexC_end trivial ?_
     refine ARun.goK (k := [_, _, _, _]) 10 ?_
     simp only [W, seval, c69]
     obtain ⟨⟨b, s7⟩, hg_s7⟩ : ∃ r, gotP s6 [58] = r := ⟨_, rfl⟩
     have hp_s7 := got_pp bs h0 hl s6 [58]
     rw [hg_s7] at hp_s7
     dsimp only at hp_s7
     first
      | refine PP.call0 hp_s7 hc hok6 fun hok7 => ?_
      | refine PP.call hp_s7 hc hok6 fun hok7 => ?_
     have hd7 := (dn_got hg_s7).le
     rw [hg_s7] at hr
     cases b
     case' false =>
      dsimp only at hr
      have hd8 := (dn_want s7 [93]).le
      refine ARun.goK 20 ?_
      simp only [W, seval, c69, hn, hi]
      first
       | refine PP.call0 (want_pp bs h0 hl s7 [93]) hc hok7 fun hok8 => ?_
       | refine PP.call (want_pp bs h0 hl s7 [93]) hc hok7 fun hok8 => ?_
      refine ARun.plainJ 1 _ (exL (.mk 10 [] 0 noT [] [x, y])) (by rfl) (.same (.same (.same (.same (.same (.sl (.sl (.sl .nil)))))))) ?_
      refine ARun.goK 20 ?_
      simp only [W, seval, c69, hn, hi]
      refine ih (.mk 10 [] 0 noT [] [x, y], wantP s7 [93]) ⟨hok8, by dsimp only; omega, m', by dsimp only; omega, hr⟩ (by dsimp only; omega) [] _ ?_
      simp only [agf, seval, hi2, hN1, hN2, ht1]
     case' true =>
      dsimp only at hr
      obtain ⟨⟨u, s8⟩, hu⟩ : ∃ r, E s7 = r := ⟨_, rfl⟩
      have hpu := hE s7 (by omega)
      have hdu := (hdE.at hu).le
      rw [hu] at hpu hr
      dsimp only at hpu hr
      unfold exV at hpu
      have hrows : rowsSz 8 [exD x, exD y] = true := rowsSz_ex [x, y]
      have hr1 : rowsSz 8 [exD u] = true := ex1 u
      have hd9 := (dn_want s8 [93]).le
      refine ARun.goK 6 ?_
      simp only [W, seval, c69, hn, hi]
      refine PP.wit hpu hc hok7 (haN 1 (by rfl)) fun hok8 => ?_
      refine ARun.drawE 8 [3, 5, 7, 9] (fun S => ∃ k0 : Int, S.boxes[N + 1]? = some [.d (.int .i64 k0), .d (.str []), .d (.int .u64 0), .d (.int .i64 0), .d (.str []), .sl [] .full, .sl [] .full, .sl [exD x, exD y] .full]) (by kernel_rfl) (by kernel_rfl) (by kernel_rfl) (by kernel_rfl) (by kernel_rfl) ?_
      simp only [W, seval, c69]
      refine lexC_q (v := ?_) (by rfl) (by kernel_rfl) (fun S hS => ?_) ?_
      rotate_left
      ·simp only [W, seval, c69]
       exact rfl
      simp only [W, seval, c69]
      refine lexC_q (v := ?_) (by rfl) (by kernel_rfl) (fun S hS => ?_) ?_
      rotate_left
      ·obtain ⟨k0, hS⟩ := hS
       simp only [W, seval, c69, hS]
       exact rfl
      simp only [W, seval, c69]
      refine lexC_q (v := ?_) (by rfl) (by kernel_rfl) (fun S hS => ?_) ?_
      rotate_left
      ·simp only [W, seval, c69]
       exact rfl
      simp only [W, seval, c69]
      refine PP.lexc hpu hc hok7 hok8 ⟨10, by simp [bx_loc, hn]⟩ (by rfl) (by kernel_rfl) ?_ ?_
      ·simp only [W, seval, c69]
       exact ⟨_, _, rfl, rfl, by rfl, by rfl⟩
      simp only [W, seval, c69]
      refine lexC_q (v := ?_) (by rfl) (by kernel_rfl) (fun S hS => ?_) ?_
      rotate_left
      ·simp only [W, seval, c69, mapD_nil, mapD_cons, Nat.reduceMul, rows8]
       exact rfl
      simp only [W, seval, c69]
      refine lexC_w (v := ?_) (S' := ?_) ⟨10, by simp [bx_loc, hn]⟩ (by rfl) (by kernel_rfl) ?_ ?_
      rotate_left 2
      ·simp only [W, seval, c69, hn, ht, hrows, hr1, Nat.reduceMul]
       exact rfl
      simp only [W, seval, c69]
      refine lexC_q (v := ?_) (by rfl) (by kernel_rfl) (fun S hS => ?_) ?_
      rotate_left
      ·simp only [W, seval, c69]
       exact rfl
      simp only [W, seval, c69]
      refine lexC_w (v := ?_) (S' := ?_) ⟨10, by simp [bx_loc, hn]⟩ (by rfl) (by kernel_rfl) ?_ ?_
      rotate_left 2
      ·simp only [W, seval, c69, hn, ht]
       exact rfl
      simp only [W, seval, c69]
      refine lexC_end ⟨11, by simp [bx_loc, hn]⟩ ?_
      refine lexC_q (v := ?_) (by rfl) (by kernel_rfl) (fun S hS => ?_) ?_
      rotate_left
      ·simp only [W, seval, c69]
       exact rfl
      simp only [W, seval, c69]
      refine lexC_w (v := ?_) (S' := ?_) ?_ (by rfl) (by kernel_rfl) ?_ ?_
      rotate_left 2
      ·first | trivial | simp [bx_loc, bx_loc0, hn]
      ·simp only [W, seval, c69, hn]
       exact rfl
      simp only [W, seval, c69]
      refine lexC_end trivial ?_
      refine ARun.goK (k := [_, _, _, _]) 10 ?_
      simp only [W, seval, c69]
      first
       | refine PP.call0 (want_pp bs h0 hl s8 [93]) hc hok8 fun hok9 => ?_
       | refine PP.call (want_pp bs h0 hl s8 [93]) hc hok8 fun hok9 => ?_
      refine ARun.plainJ 1 _ (exL (.mk 11 [] 0 noT [] [x, y, u])) (by rfl) (.same (.same (.same (.same (.same (.sl (.sl (.sl .nil)))))))) ?_
      refine ARun.goK 20 ?_
      simp only [W, seval, c69, hn, hi]
      refine ih (.mk 11 [] 0 noT [] [x, y, u], wantP s8 [93]) ⟨hok9, by dsimp only; omega, m', by dsimp only; omega, hr⟩ (by dsimp only; omega) [(3, 8)] _ ?_
      simp only [agf, seval, hi2, hN1, hN2, ht1]
 rintro ⟨⟩ hok3
 have hwl := wrap_in ((l0.length : Int) - 1) (by omega)
 refine ARun.go 10 ?_
 simp only [W, seval, c69, hn, hi, sgD_len, hwl]
 refine ARun.loopW (fun a : Nat × ExT => (envS 74 [(0, .ptr c 0), (2, .ptr N 0), (3, .sl (sgD l0) (.own t)), (5, .ptr (N + 1) 0), (6, .d (.int .i64 ((a.1 : Int) - 1)))], ⟨B.set c (bxP bs s3) ++ [[.d (.int .i64 0), .d (.str []), .d (.int .u64 0), .d (.int .i64 0), .d (.str []), .sl [] .full, .sl [] .full, .sl [] .full], exL a.2], T ++ [(l0.length, 1)]⟩)) (fun a => a.1 ≤ l0.length ∧ signT (l0.take a.1) a.2 = signT l0 y0) (fun a => a.1) (l0.length, y0) ⟨Nat.le_refl _, by dsimp only; rw [List.take_length]⟩ ?_ rfl ?_
 ·skip
  refine Agree.env _ ?_
  simp only [agw, seval, hn]
 rintro ⟨j, x⟩ ⟨hj, hsx⟩ ih
 dsimp only at hj hsx ih ⊢
 cases j with
 | zero =>
  rw [List.take_zero, signT] at hsx
  subst hsx
  have hz : ((0 : Nat) : Int) - 1 = -1 := rfl
  rw [hz]
  refine ARun.go 40 ?_
  simp only [W, seval, c69, hn, hi, exL]
  refine retc (v := ?_) Tryz.func69 (by rfl) ?_ ?_
  rotate_left
  ·simp only [W, seval, c69, hn, hi]
   exact rfl
  refine PF.ret (fun _ _ => rfl) ?_
  exact ⟨rfl, 0, hok3, rfl⟩
 | succ q =>
  have hq : ((q + 1 : Nat) : Int) - 1 = (q : Int) := by omega
  have hw := wrap_in ((q : Int) - 1) (by omega)
  obtain ⟨k, hk⟩ : ∃ k, l0[q]? = some k := ⟨_, List.getElem?_eq_getElem (by omega)⟩
  rw [hq]
  refine ARun.go 12 ?_
  simp only [W, seval, c69, hn, hi]
  refine ARun.drawE 7 [7] (fun S => S.boxes[N + 1]? = some (exL x)) (by kernel_rfl) (by kernel_rfl) (by kernel_rfl) (by kernel_rfl) (by kernel_rfl) ?_
  simp only [W, seval, c69]
  refine lexC_q (v := ?_) (by rfl) (by kernel_rfl) (fun S hS => ?_) ?_
  rotate_left
  ·simp only [W, seval, c69]
   exact rfl
  simp only [W, seval, c69]
  refine lexC_q (v := ?_) (by rfl) (by kernel_rfl) (fun S hS => ?_) ?_
  rotate_left
  ·simp only [W, seval, c69]
   exact rfl
  simp only [W, seval, c69]
  refine lexC_q (v := ?_) (by rfl) (by kernel_rfl) (fun S hS => ?_) ?_
  rotate_left
  ·simp only [W, seval, c69, sgD_get, hk]
   exact rfl
  simp only [W, seval, c69]
  refine lexC_q (v := ?_) (by rfl) (by kernel_rfl) (fun S hS => ?_) ?_
  rotate_left
  ·simp only [W, seval, c69]
   exact rfl
  simp only [W, seval, c69]
  refine lexC_q (v := ?_) (by rfl) (by kernel_rfl) (fun S hS => ?_) ?_
  rotate_left
  ·try dsimp only at hS
   simp only [W, seval, c69, hS, exL]
   exact rfl
  simp only [W, seval, c69]
  refine lexC_q (v := ?_) (by rfl) (by kernel_rfl) (fun S hS => ?_) ?_
  rotate_left
  ·simp only [W, seval, c69, mapD_nil, mapD_cons, Nat.reduceMul, rows8]
   exact rfl
  simp only [W, seval, c69]
  refine lexC_q (v := ?_) (by rfl) (by kernel_rfl) (fun S hS => ?_) ?_
  rotate_left
  ·simp only [W, seval, c69]
   exact rfl
  simp only [W, seval, c69]
  refine lexC_end (by simp [bx_loc, hn]) ?_
  refine lexC_w (v := ?_) (S' := ?_) ?_ (by rfl) (by kernel_rfl) ?_ ?_
  rotate_left 2
  ·first | trivial | simp [bx_loc, bx_loc0, hn, exL]
  ·simp only [W, seval, c69, hn, exL]
   exact rfl
  simp only [W, seval, c69]
  refine lexC_end trivial ?_
  refine ARun.plainJ 1 _ (exL (.mk k [] 0 noT [] [x])) (by rfl) (.same (.same (.same (.same (.same (.sl (.sl (.sl .nil)))))))) ?_
  refine ARun.go 20 ?_
  simp only [W, seval, c69, hn, hi, hw]
  refine ih (q, .mk k [] 0 noT [] [x]) ⟨by dsimp only; omega, ?_⟩ (by dsimp only; omega) _ _ ?_ rfl
  ·dsimp only
   rw [← hsx, List.take_add_one, hk]
   exact (sign_app (l0.take q) k x).symm
  ·skip
   refine Agree.env _ ?_
   simp only [agw, seval, hn]
end Go.Proofs.YtnnnhlkmdnacaaaGreatDoor
namespace Go.Proofs.YtnnnhlkmdnacaaaGreatDoor
open Go.RowKit Go.Av
def Eqv {α : Type} (a b : α × Ps) : Prop := a.2 = b.2 ∧ (a.2.e = 0 → a.1 = b.1)
theorem Eqv.refl {α : Type} (a : α × Ps) : Eqv a a := ⟨rfl, fun _ => rfl⟩
def EqE {α : Type} (n : Nat) (E E' : Ps → α × Ps) : Prop := ∀ s, mu s < n → Eqv (E s) (E' s)
theorem EqE.at {α : Type} {n : Nat} {E E' : Ps → α × Ps} (h : EqE n E E') (s : Ps) (hn : mu s < n) : ∃ x x' s1, E s = (x, s1) ∧ E' s = (x', s1) ∧ (s1.e = 0 → x = x') := by
 obtain ⟨h1, h2⟩ := h s hn
 exact ⟨(E s).1, (E' s).1, (E s).2, rfl, by rw [h1], h2⟩
theorem fail_dead {s : Ps} (h : ¬ s.e = 0) (e : Int) : failP s e = s := by unfold failP; rw [if_neg h]
theorem fail_e {s : Ps} (h : s.e = 0) : ¬ (failP s 51).e = 0 := by
 unfold failP
 rw [if_pos h]
 show ¬ (51 : Int) = 0
 omega
theorem Eqv.open {α : Type} {a b : α × Ps} (h : Eqv a b) : ∃ x x' s1, a = (x, s1) ∧ b = (x', s1) ∧ (s1.e = 0 → x = x') := ⟨a.1, b.1, a.2, rfl, by rw [h.1], h.2⟩
theorem typ_lt {m : Nat} {s s2 : Ps} {t : TyT} (hi : isP s [91] = true) (hm : mu s ≤ m) (ht : typP m s = (t, s2)) : mu s2 < mu s := by
 cases hg : gotP s [91] with
 | mk b s1 =>
  have hb : b = true := by
   unfold gotP at hg
   rw [if_pos hi] at hg
   cases hg
   rfl
  subst hb
  have h1 := got_lt hg
  cases m with
  | zero => omega
  | succ m =>
   unfold typP at ht
   split at ht
   rename_i hu
   split at ht
   rename_i hb
   cases ht
   unfold upP at hu
   rw [hg] at hu
   cases hu2 : upP m (wantP s1 [93]) with
   | mk k s3 =>
   dsimp only at hu
   rw [hu2] at hu
   dsimp only at hu
   cases hu
   have := (dn_want s1 [93]).le
   have := (dn_up m hu2).le
   have := (dn_base hb).le
   omega
end Go.Proofs.YtnnnhlkmdnacaaaGreatDoor
namespace Go.Proofs.YtnnnhlkmdnacaaaGreatDoor
open Go.RowKit Go.Av Go.Ab
set_option linter.unusedSimpArgs false
set_option maxRecDepth 100000
set_option linter.defProp false
def c124 := by
 have c := KK_of Tryz.f124 (by conv => lhs; cbv)
 dsimp only [KK, KxP, doO, opO, List.map_cons, List.map_nil, List.toList_toArray] at c
 exact c
theorem b124 : FnIs Tryz.prog 124 Tryz.f124 32 := ⟨Tryz.func124, by kernel_rfl⟩
def c97 := by
 have c := KK_of Tryz.f97 (by conv => lhs; cbv)
 dsimp only [KK, KxP, doO, opO, List.map_cons, List.map_nil, List.toList_toArray] at c
 exact c
theorem b97 : FnIs Tryz.prog 97 Tryz.f97 92 := ⟨Tryz.func97, by kernel_rfl⟩
def exF (tx : List UInt8) : List V := [.d (.int .i64 14), .d (.str []), .d (.int .u64 0), .d (.int .i64 7), .d (.str tx), .sl [] .full, .sl [] .full, .sl [] .full]
def FOk (bs : List UInt8) (E : EP) (n : Nat) : Prop := ∀ (M : Nat) (s : Ps) (tx : List UInt8) (Z : List V) (c : Nat) (B : List (List V)) (T : List (Nat × Nat)), mu s < n → mu s < M → c < B.length → OkP bs s →
 AFn Tryz.prog TabI 144 [.ptr c 0, .ptr (B.length + 1) 0] ⟨B.set c (bxP bs s) ++ [Z, exF tx], T⟩ fun v m => v = .tup [] ∧ OkP bs (wantP (fldL E M s).2 [125]) ∧ m = ⟨B.set c (bxP bs (wantP (fldL E M s).2 [125])) ++ [Z, exL (.mk 14 [] 0 (.mk 7 tx []) (fldL E M s).1.1 (fldL E M s).1.2)], T⟩
set_option maxHeartbeats 4000000 in
theorem named_pp (bs : List UInt8) (h0 : True) (hl : bs.length ≤ 100000) {E : EP} {n : Nat} (hE : EOk bs E n) (hd : DnE E) (hF : FOk bs E n) (m : Nat) (hnm : n ≤ m) (s : Ps) (hs : mu s ≤ n) :
 PP bs 124 [] s (exV (namedP true E m s).1) (namedP true E m s).2 := by
 intro c B T i hc hok
 obtain ⟨N, hn⟩ : ∃ N, B.length = N := ⟨_, rfl⟩
 have hi : c < N := by omega
 obtain ⟨K, hK⟩ : ∃ K, namedP true E m s = K := ⟨_, rfl⟩
 rw [hK]
 unfold namedP at hK
 refine b124.go 10 rfl fun hsm => ?_
 simp only [smw] at hsm
 simp only [W, seval, c124, hn, hi]
 obtain ⟨⟨tx, s1⟩, hg_s1⟩ : ∃ r, nameP s = r := ⟨_, rfl⟩
 have hp_s1 := name_pp bs h0 hl s
 rw [hg_s1] at hp_s1
 dsimp only at hp_s1
 first
  | refine PP.call0 hp_s1 hc hok fun hok1 => ?_
  | refine PP.call hp_s1 hc hok fun hok1 => ?_
 have hd1 := (dn_name hg_s1).le
 rw [hg_s1] at hK
 dsimp only at hK
 refine ARun.go 10 ?_
 simp only [W, seval, c124, hn, hi]
 obtain ⟨⟨b, s2⟩, hg_s2⟩ : ∃ r, gotP s1 [40] = r := ⟨_, rfl⟩
 have hp_s2 := got_pp bs h0 hl s1 [40]
 rw [hg_s2] at hp_s2
 dsimp only at hp_s2
 first
  | refine PP.call0 hp_s2 hc hok1 fun hok2 => ?_
  | refine PP.call hp_s2 hc hok1 fun hok2 => ?_
 rw [hg_s2] at hK
 cases b
 case' true =>
  have hlt := got_lt hg_s2
  dsimp only [argsP] at hK
  obtain ⟨⟨l, s3⟩, hL⟩ : ∃ r, listP E [41] false m s2 = r := ⟨_, rfl⟩
  have hpl := list_pp bs h0 hl hE hd [41] false m s2 (by omega) (by omega)
  rw [hL] at hK hpl
  dsimp only at hK hpl
  subst hK
  refine ARun.go 20 ?_
  simp only [W, seval, c124, hn, hi]
  refine PP.call hpl hc hok2 fun hok3 => ?_
  refine ARun.go 20 ?_
  simp only [W, seval, c124, hn, hi]
  refine retc (v := ?_) Tryz.func124 (by rfl) ?_ ?_
  rotate_left
  ·simp only [W, seval, c124, hn, hi]
   exact rfl
  refine PF.retJ (fun _ _ => rfl) ?_
  exact ⟨rfl, 0, hok3, rfl⟩
 case' false =>
  have e2 := got_no hg_s2
  subst e2
  dsimp only at hK
  cases hh : s2.h
  case' true =>
   rw [hh, if_neg (by simp)] at hK
   subst hK
   refine ARun.go 60 ?_
   simp only [W, seval, c124, hn, hi, bxP, hh]
   refine retc (v := ?_) Tryz.func124 (by rfl) ?_ ?_
   rotate_left
   ·simp only [W, seval, c124, hn, hi]
    exact rfl
   refine PF.retJ (fun _ _ => rfl) ?_
   exact ⟨rfl, 0, hok2, rfl⟩
  case' false =>
   rw [hh, if_pos rfl] at hK
   refine ARun.go 60 ?_
   simp only [W, seval, c124, hn, hi, bxP, hh]
   obtain ⟨⟨b, s3⟩, hg3⟩ : ∃ r, gotP s2 [123] = r := ⟨_, rfl⟩
   have hp3 := got_pp bs h0 hl s2 [123]
   rw [hg3] at hp3 hK
   dsimp only at hp3
   have hbx : [V.d (D.sl (byD bs)), V.d (D.int IntKind.i64 ↑s2.w.kind), V.d (D.str s2.w.text), V.d (D.int IntKind.u64 ↑s2.w.int), V.d (D.int IntKind.i64 ↑s2.w.at'), V.d (D.int IntKind.i64 ↑s2.w.next), V.d (D.int IntKind.i64 s2.e), V.d (D.int IntKind.i64 s2.o), V.d (D.bool false)] = bxP bs s2 := by unfold bxP; rw [hh]
   rw [hbx]
   refine PP.call hp3 hc hok2 fun hok3 => ?_
   cases b
   case' false =>
    have e3 := got_no hg3
    subst e3
    dsimp only at hK
    subst hK
    refine ARun.go 60 ?_
    simp only [W, seval, c124, hn, hi]
    refine retc (v := ?_) Tryz.func124 (by rfl) ?_ ?_
    rotate_left
    ·simp only [W, seval, c124, hn, hi]
     exact rfl
    refine PF.retJ (fun _ _ => rfl) ?_
    exact ⟨rfl, 0, hok3, rfl⟩
   case' true =>
    have hlt := got_lt hg3
    have hf := hF m s3 tx [.d (.int .i64 0), .d (.str []), .d (.int .u64 0), .d (.int .i64 0), .d (.str []), .sl [] .full, .sl [] .full, .sl [] .full] c B T (by omega) (by omega) hc hok3
    obtain ⟨⟨⟨ts, xs⟩, s4⟩, hX⟩ : ∃ r, fldL E m s3 = r := ⟨_, rfl⟩
    rw [hX] at hf
    dsimp only at hK
    rw [hX] at hK
    dsimp only at hf hK
    subst hK
    rw [hn] at hf
    refine ARun.go 60 ?_
    simp only [W, seval, c124, hn, hi]
    refine callS_fn hf ?_
    rintro _ _ ⟨rfl, hok4, rfl⟩
    refine ARun.go 60 ?_
    simp only [W, seval, c124, hn, hi, exL]
    refine retc (v := ?_) Tryz.func124 (by rfl) ?_ ?_
    rotate_left
    ·simp only [W, seval, c124, hn, hi]
     exact rfl
    refine PF.retJ (fun _ _ => rfl) ?_
    exact ⟨rfl, 0, hok4, rfl⟩
theorem typ_kind {m : Nat} {s : Ps} (hi : isP s [91] = true) (hm : 0 < m) : (typP m s).1.kind = 8 := by
 cases m with
 | zero => omega
 | succ m =>
  have hw : ∀ (n : Nat) (t : TyT), (wrapT (n + 1) t).kind = 8 := by
   intro n
   induction n with
   | zero => intro t; rfl
   | succ n ih => intro t; rw [wrapT]; exact ih _
  unfold typP
  rw [upP]
  have hg : (gotP s [91]).1 = true := by unfold gotP; rw [hi]; rfl
  obtain ⟨⟨b, s1⟩, h1⟩ : ∃ r, gotP s [91] = r := ⟨_, rfl⟩
  rw [h1] at hg ⊢
  have hb : b = true := hg
  subst hb
  exact hw _ _
set_option maxHeartbeats 8000000 in
theorem prim_pp (bs : List UInt8) (h0 : True) (hl : bs.length ≤ 100000) {E : EP} {n : Nat} (hE : EOk bs E n) (hd : DnE E) (hF : FOk bs E n) (m : Nat) (hnm : n < m) (s : Ps) (hs : mu s ≤ n) :
 PP bs 97 [] s (exV (primP true E m s).1) (primP true E m s).2 := by
 intro c B T i hc hok
 obtain ⟨N, hn⟩ : ∃ N, B.length = N := ⟨_, rfl⟩
 have hi : c < N := by omega
 obtain ⟨K, hK⟩ : ∃ K, primP true E m s = K := ⟨_, rfl⟩
 rw [hK]
 unfold primP at hK
 by_cases he : s.e = 0
 case neg =>
  have e1 := decide_eq_false he
  rw [if_pos he] at hK
  subst hK
  refine b97.go 60 rfl fun hsm => ?_
  simp only [smw] at hsm
  simp only [W, seval, c97, hn, hi, bxP, e1]
  refine PP.call (fail_pp bs s 51 (by decide)) hc hok fun hok1 => ?_
  rw [fail_dead he] at hok1 ⊢
  refine ARun.go 60 ?_
  simp only [W, seval, c97, hn, hi]
  refine retc (v := ?_) Tryz.func97 (by rfl) ?_ ?_
  rotate_left
  ·simp only [W, seval, c97, hn, hi]
   exact rfl
  refine PF.retJ (fun _ _ => rfl) ?_
  exact ⟨rfl, 0, hok1, rfl⟩
 rw [if_neg (by simpa using he)] at hK
 have e1 := decide_eq_true he
 by_cases h2 : s.w.kind = 2
 case pos =>
  have e2 : decide ((s.w.kind : Int) = 2) = true := decide_eq_true (by omega)
  rw [if_pos h2] at hK
  subst hK
  have hnp := num_pp bs h0 hl s
  have hnv : numP s = ((s.w.int : Int), nextP s) := if_pos ⟨he, h2⟩
  rw [hnv] at hnp
  refine b97.go 60 rfl fun hsm => ?_
  simp only [smw] at hsm
  simp only [W, seval, c97, hn, hi, bxP, e1, e2]
  refine PP.call hnp hc hok fun hok1 => ?_
  refine ARun.go 60 ?_
  simp only [W, seval, c97, hn, hi]
  refine retc (v := ?_) Tryz.func97 (by rfl) ?_ ?_
  rotate_left
  ·simp only [W, seval, c97, hn, hi]
   exact rfl
  refine PF.retJ (fun _ _ => rfl) ?_
  exact ⟨rfl, 0, hok1, rfl⟩
 rw [if_neg h2] at hK
 have e2 : decide ((s.w.kind : Int) = 2) = false := decide_eq_false (by omega)
 by_cases h3 : s.w.kind = 1
 case pos =>
  have e3 : decide ((s.w.kind : Int) = 1) = true := decide_eq_true (by omega)
  rw [if_pos h3] at hK
  have hnp := named_pp bs h0 hl hE hd hF m (by omega) s hs
  rw [hK] at hnp
  unfold exV at hnp ⊢
  refine b97.go 60 rfl fun hsm => ?_
  simp only [smw] at hsm
  simp only [W, seval, c97, hn, hi, bxP, e1, e2, e3]
  refine PP.call hnp hc hok fun hok1 => ?_
  refine ARun.go 60 ?_
  simp only [W, seval, c97, hn, hi]
  refine retc (v := ?_) Tryz.func97 (by rfl) ?_ ?_
  rotate_left
  ·simp only [W, seval, c97, hn, hi]
   exact rfl
  refine PF.retJ (fun _ _ => rfl) ?_
  exact ⟨rfl, 0, hok1, rfl⟩
 rw [if_neg h3] at hK
 have e3 : decide ((s.w.kind : Int) = 1) = false := decide_eq_false (by omega)
 have hpos : s.w.kind = 0 ∨ mu (nextP s) < n ∧ ¬ s.w.kind = 0 := by
  by_cases hz : s.w.kind = 0
  ·exact .inl hz
  ·have := next_lt s he hz
   exact .inr ⟨by omega, hz⟩
 refine b97.go 60 rfl fun hsm => ?_
 simp only [smw] at hsm
 simp only [W, seval, c97, hn, hi, bxP, e1, e2, e3]
 refine PP.call (is_pp bs s [116, 114, 117, 101]) hc hok fun _ => ?_
 have hkd4 : decide ((s.w.kind : Int) = 4) = decide (s.w.kind = 4) := dec_nat s.w.kind 4
 refine ARun.after [_, _] _ (fun _ : Unit => (envS 92 [(0, .ptr c 0), (2, .ptr N 0), (30, .d (.bool (keyB s)))], ⟨B.set c (bxP bs s) ++ [[.d (.int .i64 0), .d (.str []), .d (.int .u64 0), .d (.int .i64 0), .d (.str []), .sl [] .full, .sl [] .full, .sl [] .full]], T⟩)) (fun _ => True) ?_ ?_
 case refine_2 =>
  intro K' hend
  cases q1 : isP s [116, 114, 117, 101]
  case' true =>
   have hkb : keyB s = true := by simp [keyB, q1]
   refine ARun.goK (k := [_, _]) 20 ?_
   simp only [W, seval, c97]
   refine hend () trivial _ _ ?_ rfl
   refine Agree.env _ ?_
   simp only [agw, seval, hkb]
  case' false =>
   refine ARun.goK (k := [_, _]) 20 ?_
   simp only [W, seval, c97]
   refine PP.call (is_pp bs s [102, 97, 108, 115, 101]) hc hok fun _ => ?_
   cases q2 : isP s [102, 97, 108, 115, 101]
   case' true =>
    have hkb : keyB s = true := by simp [keyB, q2]
    refine ARun.goK 20 ?_
    simp only [W, seval, c97]
    refine hend () trivial _ _ ?_ rfl
    refine Agree.env _ ?_
    simp only [agw, seval, hkb]
   case' false =>
    refine ARun.goK 20 ?_
    simp only [W, seval, c97]
    refine PP.call (is_pp bs s [108, 101, 110]) hc hok fun _ => ?_
    cases q3 : isP s [108, 101, 110]
    case' true =>
     have hkb : keyB s = true := by simp [keyB, q3]
     refine ARun.goK 20 ?_
     simp only [W, seval, c97]
     refine hend () trivial _ _ ?_ rfl
     refine Agree.env _ ?_
     simp only [agw, seval, hkb]
    case' false =>
     refine ARun.goK 20 ?_
     simp only [W, seval, c97]
     refine PP.call (is_pp bs s [97, 112, 112, 101, 110, 100]) hc hok fun _ => ?_
     cases q4 : isP s [97, 112, 112, 101, 110, 100]
     case' true =>
      have hkb : keyB s = true := by simp [keyB, q4]
      refine ARun.goK 20 ?_
      simp only [W, seval, c97]
      refine hend () trivial _ _ ?_ rfl
      refine Agree.env _ ?_
      simp only [agw, seval, hkb]
     case' false =>
      have hkb : keyB s = (decide (s.w.kind = 4) && decide (1 < kindS s.w.text)) := by simp [keyB, q1, q2, q3, q4]
      cases q5 : decide (s.w.kind = 4)
      case' false =>
       rw [q5] at hkd4 hkb
       rw [Bool.false_and] at hkb
       refine ARun.goK 60 ?_
       simp only [W, seval, c97, hn, hi, bxP, hkd4]
       refine hend () trivial _ _ ?_ rfl
       refine Agree.env _ ?_
       simp only [agw, seval, hkb]
      case' true =>
       rw [q5] at hkd4 hkb
       rw [Bool.true_and] at hkb
       refine ARun.goK 60 ?_
       simp only [W, seval, c97, hn, hi, bxP, hkd4]
       refine callS_fn (basic_ab s.w.text _) ?_
       rintro _ _ ⟨rfl, rfl⟩
       refine ARun.goK 60 ?_
       simp only [W, seval, c97]
       refine hend () trivial _ _ ?_ rfl
       refine Agree.env _ ?_
       simp only [agw, seval, hkb]
 rintro ⟨⟩ -
 cases hkb : keyB s
 case' true =>
  have hkn : ¬ s.w.kind = 0 := by
   intro hz
   unfold keyB at hkb
   simp only [Bool.or_eq_true, Bool.and_eq_true, decide_eq_true_eq] at hkb
   rcases hkb with (((h | h) | h) | h) | h
   ·have := (is_live h).2.1; omega
   ·have := (is_live h).2.1; omega
   ·have := (is_live h).2.1; omega
   ·have := (is_live h).2.1; omega
   ·omega
  rw [hkb, if_pos rfl] at hK
  have hkp := keyed_pp bs h0 hl hE hd s (fun _ => hkn) (by have := next_lt s he hkn; omega)
  rw [hK] at hkp
  unfold exV at hkp ⊢
  refine ARun.go 20 ?_
  simp only [W, seval, c97, hn, hi]
  refine PP.call hkp hc hok fun hok1 => ?_
  refine ARun.go 60 ?_
  simp only [W, seval, c97, hn, hi]
  refine retc (v := ?_) Tryz.func97 (by rfl) ?_ ?_
  rotate_left
  ·simp only [W, seval, c97, hn, hi]
   exact rfl
  refine PF.retJ (fun _ _ => rfl) ?_
  exact ⟨rfl, 0, hok1, rfl⟩
 rw [hkb, if_neg (by simp)] at hK
 refine ARun.go 20 ?_
 simp only [W, seval, c97, hn, hi]
 obtain ⟨⟨b, s1⟩, hg_s1⟩ : ∃ r, gotP s [40] = r := ⟨_, rfl⟩
 have hp_s1 := got_pp bs h0 hl s [40]
 rw [hg_s1] at hp_s1
 dsimp only at hp_s1
 first
  | refine PP.call0 hp_s1 hc hok fun hok1 => ?_
  | refine PP.call hp_s1 hc hok fun hok1 => ?_
 rw [hg_s1] at hK
 cases b
 case' true =>
  have hlt := got_lt hg_s1
  dsimp only at hK
  obtain ⟨⟨x, s2⟩, hx⟩ : ∃ r, E s1 = r := ⟨_, rfl⟩
  have hpx := hE s1 (by omega)
  rw [hx] at hpx hK
  dsimp only at hpx hK
  subst hK
  unfold exV at hpx ⊢
  refine ARun.go 20 ?_
  simp only [W, seval, c97, hn, hi]
  refine PP.call hpx hc hok1 fun hok2 => ?_
  refine ARun.go 20 ?_
  simp only [W, seval, c97, hn, hi]
  first
   | refine PP.call0 (want_pp bs h0 hl s2 [41]) hc hok2 fun hok3 => ?_
   | refine PP.call (want_pp bs h0 hl s2 [41]) hc hok2 fun hok3 => ?_
  refine ARun.go 60 ?_
  simp only [W, seval, c97, hn, hi]
  refine retc (v := ?_) Tryz.func97 (by rfl) ?_ ?_
  rotate_left
  ·simp only [W, seval, c97, hn, hi]
   exact rfl
  refine PF.retJ (fun _ _ => rfl) ?_
  exact ⟨rfl, 0, hok3, rfl⟩
 have e1' := got_no hg_s1
 subst e1'
 dsimp only at hK
 refine ARun.after [_, _] _ (fun _ : Unit => (envS 92 [(0, .ptr c 0), (2, .ptr N 0)], ⟨B.set c (bxP bs s1) ++ [[.d (.int .i64 0), .d (.str []), .d (.int .u64 0), .d (.int .i64 0), .d (.str []), .sl [] .full, .sl [] .full, .sl [] .full]], T⟩)) (fun _ => K = (zeroE, failP s1 51)) ?_ ?_
 ·rintro ⟨⟩ hKe
  clear hK
  subst hKe
  refine ARun.go 20 ?_
  simp only [W, seval, c97, hn, hi]
  refine PP.call (fail_pp bs s1 51 (by decide)) hc hok1 fun hok2 => ?_
  refine ARun.go 60 ?_
  simp only [W, seval, c97, hn, hi]
  refine retc (v := ?_) Tryz.func97 (by rfl) ?_ ?_
  rotate_left
  ·simp only [W, seval, c97, hn, hi]
   exact rfl
  refine PF.retJ (fun _ _ => rfl) ?_
  exact ⟨rfl, 0, hok2, rfl⟩
 intro K' hend
 cases hh : s1.h
 case' true =>
  have hend := hend () (by rw [← hK, if_neg (by simp [hh])])
  unfold bxP at hend
  rw [hh] at hend
  refine ARun.goK (k := [_, _]) 60 ?_
  simp only [W, seval, c97, hn, hi, bxP, hh]
  refine hend _ _ ?_ rfl
  refine Agree.env _ ?_
  simp only [agw, seval, hn]
 have hbx : [V.d (D.sl (byD bs)), V.d (D.int IntKind.i64 ↑s1.w.kind), V.d (D.str s1.w.text), V.d (D.int IntKind.u64 ↑s1.w.int), V.d (D.int IntKind.i64 ↑s1.w.at'), V.d (D.int IntKind.i64 ↑s1.w.next), V.d (D.int IntKind.i64 s1.e), V.d (D.int IntKind.i64 s1.o), V.d (D.bool false)] = bxP bs s1 := by unfold bxP; rw [hh]
 refine ARun.goK (k := [_, _]) 60 ?_
 simp only [W, seval, c97, hn, hi, bxP, hh]
 rw [hbx]
 refine PP.call (is_pp bs s1 [91]) hc hok1 fun _ => ?_
 cases h91 : isP s1 [91]
 case' false =>
  have hend := hend () (by rw [← hK, if_neg (by simp [h91])])
  refine ARun.goK 60 ?_
  simp only [W, seval, c97, hn, hi]
  refine hend _ _ ?_ rfl
  refine Agree.env _ ?_
  simp only [agw, seval, hn]
 rw [if_pos ⟨hh, h91⟩] at hK
 have htp := typ_pp bs h0 hl m s1 (by omega)
 have hk8 := typ_kind h91 (show 0 < m by omega)
 obtain ⟨⟨t0, s2⟩, ht0⟩ : ∃ r, typP m s1 = r := ⟨_, rfl⟩
 have htl := typ_lt h91 (show mu s1 ≤ m by omega) ht0
 have hd3 := (dn_want s2 [123]).le
 rw [ht0] at htp hK hk8
 dsimp only at htp hK hk8
 have hlp := list_pp bs h0 hl hE hd [125] true m (wantP s2 [123]) (by omega) (by omega)
 obtain ⟨⟨l, s3⟩, hL⟩ : ∃ r, listP E [125] true m (wantP s2 [123]) = r := ⟨_, rfl⟩
 rw [hL] at hlp hK
 dsimp only at hlp hK
 subst hK
 unfold tyV at htp
 refine ARun.goK 20 ?_
 simp only [W, seval, c97, hn, hi]
 refine PP.call htp hc hok1 fun hok2 => ?_
 refine ARun.goK 60 ?_
 simp only [W, seval, c97, hn, hi, hk8]
 first
  | refine PP.call0 (want_pp bs h0 hl s2 [123]) hc hok2 fun hok3 => ?_
  | refine PP.call (want_pp bs h0 hl s2 [123]) hc hok2 fun hok3 => ?_
 refine ARun.goK 20 ?_
 simp only [W, seval, c97, hn, hi]
 refine PP.call hlp hc hok3 fun hok4 => ?_
 refine ARun.goK 60 ?_
 simp only [W, seval, c97, hn, hi]
 refine retc (v := ?_) Tryz.func97 (by rfl) ?_ ?_
 rotate_left
 ·simp only [W, seval, c97, hn, hi]
  exact rfl
 refine PF.retJ (fun _ _ => rfl) ?_
 refine ⟨?_, 0, hok4, rfl⟩
 unfold exV
 rw [← hk8]
 rfl
def c50 := by
 have c := KK_of Tryz.f50 (by conv => lhs; cbv)
 dsimp only [KK, KxP, doO, opO, List.map_cons, List.map_nil, List.toList_toArray] at c
 exact c
theorem b50 : FnIs Tryz.prog 50 Tryz.f50 11 := ⟨Tryz.func50, by kernel_rfl⟩
def c82 := by
 have c := KK_of Tryz.f82 (by conv => lhs; cbv)
 dsimp only [KK, KxP, doO, opO, List.map_cons, List.map_nil, List.toList_toArray] at c
 exact c
theorem b82 : FnIs Tryz.prog 82 Tryz.f82 30 := ⟨Tryz.func82, by kernel_rfl⟩
def c52 := by
 have c := KK_of Tryz.f52 (by conv => lhs; cbv)
 dsimp only [KK, KxP, doO, opO, List.map_cons, List.map_nil, List.toList_toArray] at c
 exact c
theorem b52 : FnIs Tryz.prog 52 Tryz.f52 11 := ⟨Tryz.func52, by kernel_rfl⟩
theorem fail_lt {s : Ps} (h : 0 < mu s) : mu (failP s 51) < mu s := by
 have he : s.e = 0 := Classical.byContradiction fun he => by rw [mu_dead he] at h; omega
 rw [mu_dead (fail_e he)]
 exact h
theorem name_lt {s s1 : Ps} {t : List UInt8} (h : nameP s = (t, s1)) (hp : 0 < mu s) : mu s1 < mu s := by
 unfold nameP at h
 split at h
 ·rename_i hk
  obtain ⟨_, rfl⟩ := Prod.mk.inj h
  exact next_lt s hk.1 (by omega)
 ·obtain ⟨_, rfl⟩ := Prod.mk.inj h
  exact fail_lt hp
theorem set_lt {E : EP} (hE : DnE E) {m : Nat} (hm : 0 < m) {s s1 : Ps} {x : StT} (h : setP E m s = (x, s1)) (hp : 0 < mu s) : mu s1 < mu s := by
 unfold setP at h
 obtain ⟨⟨l, s2⟩, h2⟩ : ∃ r, leftL m m s = r := ⟨_, rfl⟩
 obtain ⟨⟨v, s3⟩, h3⟩ : ∃ r, valsP E m (wantP s2 [61]) = r := ⟨_, rfl⟩
 rw [h2] at h
 dsimp only at h
 rw [h3] at h
 replace h := (Prod.mk.inj h).2
 try dsimp only at h
 subst h
 have d3 := (dn_vals hE m h3).le
 have dw := (dn_want s2 [61]).le
 have d2 : mu s2 < mu s := by
  cases m with
  | zero => omega
  | succ m =>
   rw [leftL] at h2
   obtain ⟨⟨t, s4⟩, h4⟩ : ∃ r, nameP s = r := ⟨_, rfl⟩
   rw [h4] at h2
   dsimp only at h2
   obtain ⟨⟨y, s5⟩, h5⟩ : ∃ r, dotL (m + 1) (.mk 1 t 0 noT [] []) s4 = r := ⟨_, rfl⟩
   rw [h5] at h2
   dsimp only at h2
   obtain ⟨⟨b, s6⟩, h6⟩ : ∃ r, gotP s5 [44] = r := ⟨_, rfl⟩
   rw [h6] at h2
   have d4 := name_lt h4 hp
   have d5 := (dn_dot _ h5).le
   have d6 := (dn_got h6).le
   cases b
   ·replace h2 := (Prod.mk.inj h2).2
    try dsimp only at h2
    subst h2
    omega
   ·dsimp only at h2
    obtain ⟨⟨l7, s7⟩, h7⟩ : ∃ r, leftL (m + 1) m s6 = r := ⟨_, rfl⟩
    rw [h7] at h2
    replace h2 := (Prod.mk.inj h2).2
    try dsimp only at h2
    subst h2
    have d7 := (dn_left _ _ h7).le
    omega
 omega
theorem stmt_lt {E : EP} (hE : DnE E) {S : SP} (hS : DnE S) {m : Nat} (hm : 0 < m) {s s1 : Ps} {x : StT} (h : stmtP E S m s = (x, s1)) (hp : 0 < mu s) : mu s1 < mu s := by
 have hall : ∀ t : List UInt8, ∀ s2, gotP s t = (true, s2) → mu s2 < mu s := fun t s2 hg => got_lt hg
 unfold stmtP at h
 obtain ⟨⟨b1, q1⟩, h1⟩ : ∃ r, gotP s [118, 97, 114] = r := ⟨_, rfl⟩
 rw [h1] at h
 cases b1
 case true =>
  have := got_lt h1
  dsimp only at h
  obtain ⟨⟨t, s2⟩, h2⟩ : ∃ r, nameP q1 = r := ⟨_, rfl⟩
  obtain ⟨⟨y, s3⟩, h3⟩ : ∃ r, typP m s2 = r := ⟨_, rfl⟩
  rw [h2] at h; dsimp only at h; rw [h3] at h
  replace h := (Prod.mk.inj h).2
  try dsimp only at h
  subst h
  have := (dn_name h2).le
  have := (dn_typ h3).le
  omega
 dsimp only at h
 obtain ⟨⟨b2, q2⟩, h2⟩ : ∃ r, gotP s [105, 102] = r := ⟨_, rfl⟩
 rw [h2] at h
 cases b2
 case true =>
  have := got_lt h2
  dsimp only at h
  obtain ⟨⟨y, s3⟩, h3⟩ : ∃ r, headP E q2 = r := ⟨_, rfl⟩
  obtain ⟨⟨b, s4⟩, h4⟩ : ∃ r, blockP S m s3 = r := ⟨_, rfl⟩
  obtain ⟨⟨b5, s5⟩, h5⟩ : ∃ r, gotP s4 [101, 108, 115, 101] = r := ⟨_, rfl⟩
  rw [h3] at h; dsimp only at h; rw [h4] at h; dsimp only at h; rw [h5] at h
  have := (dn_head hE h3).le
  have := (dn_block hS h4).le
  have := (dn_got h5).le
  cases b5
  ·replace h := (Prod.mk.inj h).2
   try dsimp only at h
   subst h
   omega
  ·dsimp only at h
   obtain ⟨⟨c, s6⟩, h6⟩ : ∃ r, blockP S m s5 = r := ⟨_, rfl⟩
   rw [h6] at h
   replace h := (Prod.mk.inj h).2
   try dsimp only at h
   subst h
   have := (dn_block hS h6).le
   omega
 dsimp only at h
 obtain ⟨⟨b3, q3⟩, h3⟩ : ∃ r, gotP s [102, 111, 114] = r := ⟨_, rfl⟩
 rw [h3] at h
 cases b3
 case true =>
  have := got_lt h3
  dsimp only at h
  obtain ⟨⟨y, s4⟩, h4⟩ : ∃ r, headP E q3 = r := ⟨_, rfl⟩
  obtain ⟨⟨b, s5⟩, h5⟩ : ∃ r, blockP S m s4 = r := ⟨_, rfl⟩
  rw [h4] at h; dsimp only at h; rw [h5] at h
  replace h := (Prod.mk.inj h).2
  try dsimp only at h
  subst h
  have := (dn_head hE h4).le
  have := (dn_block hS h5).le
  omega
 dsimp only at h
 obtain ⟨⟨b4, q4⟩, h4⟩ : ∃ r, gotP s [115, 119, 105, 116, 99, 104] = r := ⟨_, rfl⟩
 rw [h4] at h
 cases b4
 case true =>
  have := got_lt h4
  dsimp only at h
  obtain ⟨⟨y, s5⟩, h5⟩ : ∃ r, headP E q4 = r := ⟨_, rfl⟩
  obtain ⟨⟨b, s6⟩, h6⟩ : ∃ r, casL S m m (wantP s5 [123]) = r := ⟨_, rfl⟩
  obtain ⟨⟨e, s7⟩, h7⟩ : ∃ r, elseP S m s6 = r := ⟨_, rfl⟩
  rw [h5] at h; dsimp only at h; rw [h6] at h; dsimp only at h; rw [h7] at h
  replace h := (Prod.mk.inj h).2
  try dsimp only at h
  subst h
  have := (dn_head hE h5).le
  have := (dn_want s5 [123]).le
  have := (dn_cas hS _ _ h6).le
  have := (dn_else hS h7).le
  have := (dn_want s7 [125]).le
  omega
 dsimp only at h
 obtain ⟨⟨b5, q5⟩, h5⟩ : ∃ r, gotP s [114, 101, 116, 117, 114, 110] = r := ⟨_, rfl⟩
 rw [h5] at h
 cases b5
 case true =>
  have := got_lt h5
  dsimp only at h
  obtain ⟨⟨y, s6⟩, h6⟩ : ∃ r, valsP E m q5 = r := ⟨_, rfl⟩
  rw [h6] at h
  replace h := (Prod.mk.inj h).2
  try dsimp only at h
  subst h
  have := (dn_vals hE m h6).le
  omega
 dsimp only at h
 exact set_lt hE hm h hp
def SOk (bs : List UInt8) (S : SP) (n : Nat) : Prop := (∀ s, mu s < n → PP bs 109 [] s (stV (S s).1) (S s).2) ∧ ∀ s, mu s < n → 0 < mu s → mu (S s).2 < mu s
set_option maxHeartbeats 4000000 in
theorem param_pp (bs : List UInt8) (h0 : True) (hl : bs.length ≤ 100000) (M : Nat) (s : Ps) (hM : mu s < M) : PP bs 50 [] s (paV (paramP M s).1) (paramP M s).2 := by
 intro c B T i hc hok
 obtain ⟨N, hn⟩ : ∃ N, B.length = N := ⟨_, rfl⟩
 have hi : c < N := by omega
 obtain ⟨K, hK⟩ : ∃ K, paramP M s = K := ⟨_, rfl⟩
 rw [hK]
 unfold paramP at hK
 refine b50.go 10 rfl fun hsm => ?_
 simp only [smw] at hsm
 simp only [W, seval, c50, hn, hi]
 obtain ⟨⟨tx, s1⟩, hg_s1⟩ : ∃ r, nameP s = r := ⟨_, rfl⟩
 have hp_s1 := name_pp bs h0 hl s
 rw [hg_s1] at hp_s1
 dsimp only at hp_s1
 first
  | refine PP.call0 hp_s1 hc hok fun hok1 => ?_
  | refine PP.call hp_s1 hc hok fun hok1 => ?_
 have hd1 := (dn_name hg_s1).le
 have htp := typ_pp bs h0 hl M s1 (by omega)
 obtain ⟨⟨y, s2⟩, hy⟩ : ∃ r, typP M s1 = r := ⟨_, rfl⟩
 rw [hg_s1] at hK
 dsimp only at hK
 rw [hy] at hK htp
 dsimp only at hK htp
 subst hK
 unfold tyV at htp
 refine ARun.go 20 ?_
 simp only [W, seval, c50, hn, hi]
 refine PP.call htp hc hok1 fun hok2 => ?_
 refine ARun.go 40 ?_
 simp only [W, seval, c50, hn, hi]
 refine retc (v := ?_) Tryz.func50 (by rfl) ?_ ?_
 rotate_left
 ·simp only [W, seval, c50, hn, hi]
  exact rfl
 refine PF.retJ (fun _ _ => rfl) ?_
 exact ⟨rfl, 0, hok2, rfl⟩
theorem st1 (x : StT) : rowsSz 10 [stD x] = true := rowsSz_st [x]
theorem rows10 (x : StT) : [D.int .i64 x.kind, .sl (ssD x.names), .int .i64 x.type.kind, .str x.type.name, .sl (x.type.elem.map tyD), .sl (x.lefts.map exD), .sl (x.exprs.map exD), .sl (x.body.map stD), .sl (x.els.map stD), .sl (x.cases.map caD)] = stD x := (stD_eq x).symm
set_option maxHeartbeats 4000000 in
theorem stmts_pp (bs : List UInt8) (hl : bs.length ≤ 100000) {S : SP} {n : Nat} (hS : SOk bs S n) (M : Nat) (s : Ps) (hn1 : mu s < n) (hM : mu s < M) :
 PP bs 82 [] s (.d (.sl ((stmtsL S M s).1.map stD))) (stmtsL S M s).2 := by
 intro c B T i hc hok
 obtain ⟨N, hn⟩ : ∃ N, B.length = N := ⟨_, rfl⟩
 obtain ⟨t, ht⟩ : ∃ t, T.length = t := ⟨_, rfl⟩
 have hi : c < N := by omega
 have hmu := hok.mu_le
 obtain ⟨⟨l0, s0⟩, hL⟩ : ∃ r, stmtsL S M s = r := ⟨_, rfl⟩
 rw [hL]
 dsimp only
 refine b82.go 14 rfl fun hsm => ?_
 simp only [smw] at hsm
 simp only [W, seval, c82, hn, hi]
 refine ARun.token 3 [] (by rfl) 10 (by omega) rfl ?_
 simp only [envS_put, ht]
 refine ARun.after [_, _] _ (fun _ : Unit => (envS 30 [(0, .ptr c 0), (3, .sl (l0.map stD) (.own t))], ⟨B.set c (bxP bs s0), T ++ [(l0.length, 10)]⟩)) (fun _ => OkP bs s0) ?_ ?_
 ·rintro ⟨⟩ hok0
  refine ARun.go 20 ?_
  simp only [W, seval, c82]
  refine ARun.ret Tryz.func82 rfl (PF.retK (fun _ _ => rfl) ?_)
  refine ⟨?_, 0, hok0, rfl⟩
  simp only [W, seval, c82, wk, ht]
  simp
 intro K' hend
 refine ARun.loopW (fun a : List StT × Ps => (envS 30 [(0, .ptr c 0), (3, .sl (a.1.map stD) (.own t))], ⟨B.set c (bxP bs a.2), T ++ [(a.1.length, 10)]⟩)) (fun a => OkP bs a.2 ∧ mu a.2 < n ∧ a.1.length + mu a.2 ≤ mu s ∧ ∃ m, mu a.2 < m ∧ (a.1 ++ (stmtsL S m a.2).1, (stmtsL S m a.2).2) = (l0, s0)) (fun a => mu a.2) ([], s) ⟨hok, hn1, by simp, M, hM, by dsimp only; rw [hL, List.nil_append]⟩ ?_ rfl ?_
 ·skip
  refine Agree.env _ ?_
  simp only [agw, seval, hn]
  trivial
 rintro ⟨l, s1⟩ ⟨hok1, hn2, hle, m, hm, hr⟩ ih
 dsimp only at hok1 hn2 hle hm hr ih ⊢
 cases m with
 | zero => omega
 | succ m =>
 rw [stmtsL] at hr
 by_cases he : s1.e = 0
 case neg =>
  have e1 := decide_eq_false he
  rw [if_neg (fun h => he h.1)] at hr
  dsimp only at hr
  rw [List.append_nil] at hr
  obtain ⟨rfl, rfl⟩ := Prod.mk.inj hr
  refine ARun.goK (k := [_, _, _]) 80 ?_
  simp only [W, seval, c82, hn, hi, bxP, e1]
  refine hend () hok1 _ _ ?_ rfl
  refine Agree.env _ ?_
  simp only [agw, seval, hn]
 have e1 := decide_eq_true he
 refine ARun.goK (k := [_, _, _]) 80 ?_
 simp only [W, seval, c82, hn, hi, bxP, e1]
 refine PP.call0 (is_pp bs s1 [125]) hc hok1 fun _ => ?_
 cases q1 : isP s1 [125]
 case' true =>
  rw [if_neg (fun h => by rw [q1] at h; exact absurd h.2.1 (by decide))] at hr
  dsimp only at hr
  rw [List.append_nil] at hr
  obtain ⟨rfl, rfl⟩ := Prod.mk.inj hr
  refine ARun.goK 80 ?_
  simp only [W, seval, c82, hn, hi]
  refine hend () hok1 _ _ ?_ rfl
  refine Agree.env _ ?_
  simp only [agw, seval, hn]
 case' false =>
  refine ARun.goK 80 ?_
  simp only [W, seval, c82, hn, hi]
  refine PP.call0 (is_pp bs s1 [99, 97, 115, 101]) hc hok1 fun _ => ?_
  cases q2 : isP s1 [99, 97, 115, 101]
  case' true =>
   rw [if_neg (fun h => by rw [q2] at h; exact absurd h.2.2.1 (by decide))] at hr
   dsimp only at hr
   rw [List.append_nil] at hr
   obtain ⟨rfl, rfl⟩ := Prod.mk.inj hr
   refine ARun.goK 80 ?_
   simp only [W, seval, c82, hn, hi]
   refine hend () hok1 _ _ ?_ rfl
   refine Agree.env _ ?_
   simp only [agw, seval, hn]
  case' false =>
   refine ARun.goK 80 ?_
   simp only [W, seval, c82, hn, hi]
   refine PP.call0 (is_pp bs s1 [100, 101, 102, 97, 117, 108, 116]) hc hok1 fun _ => ?_
   cases q3 : isP s1 [100, 101, 102, 97, 117, 108, 116]
   case' true =>
    rw [if_neg (fun h => by rw [q3] at h; exact absurd h.2.2.2 (by decide))] at hr
    dsimp only at hr
    rw [List.append_nil] at hr
    obtain ⟨rfl, rfl⟩ := Prod.mk.inj hr
    refine ARun.goK 80 ?_
    simp only [W, seval, c82, hn, hi]
    refine hend () hok1 _ _ ?_ rfl
    refine Agree.env _ ?_
    simp only [agw, seval, hn]
   case' false =>
    rw [if_pos ⟨he, q1, q2, q3⟩] at hr
    have hmp : 0 < mu s1 := by rw [mu_live he, (hok1 he).2.2]; simp
    obtain ⟨⟨x, s2⟩, hx⟩ : ∃ r, S s1 = r := ⟨_, rfl⟩
    have hpx := hS.1 s1 hn2
    have hlx := hS.2 s1 hn2 hmp
    rw [hx] at hpx hr hlx
    dsimp only at hpx hr hlx
    refine ARun.goK 80 ?_
    simp only [W, seval, c82, hn, hi]
    refine PP.call0 hpx hc hok1 fun hok2 => ?_
    have hcap : (l.length + 1) * 200 ≤ 140737488355328 := by omega
    have hmap : l.map stD ++ [stD x] = (l ++ [x]).map stD := by simp
    have hlen : (l ++ [x]).length = l.length + 1 := by simp
    unfold stV
    refine ARun.goK 60 ?_
    simp only [W, seval, c82, hn, hi, ht, mapD_nil, mapD_cons, Nat.reduceMul, rows10, hcap, hmap, st1]
    refine ih (l ++ [x], s2) ⟨hok2, by dsimp only; omega, by dsimp only; omega, m, by dsimp only; omega, ?_⟩ (by dsimp only; omega) _ _ ?_ (by dsimp only; rw [hlen])
    ·dsimp only
     rw [← hr]
     simp
    ·skip
     refine Agree.env _ ?_
     simp only [agw, seval, hn]
theorem block_pp (bs : List UInt8) (h0 : True) (hl : bs.length ≤ 100000) {S : SP} {n : Nat} (hS : SOk bs S n) (M : Nat) (s : Ps) (hn1 : mu s < n) (hM : mu s < M) :
 PP bs 52 [] s (.d (.sl ((blockP S M s).1.map stD))) (blockP S M s).2 := by
 intro c B T i hc hok
 obtain ⟨K, hK⟩ : ∃ K, blockP S M s = K := ⟨_, rfl⟩
 rw [hK]
 unfold blockP at hK
 have hd := (dn_want s [123]).le
 have hsp := stmts_pp bs hl hS M (wantP s [123]) (by omega) (by omega)
 obtain ⟨⟨l, s1⟩, hL⟩ : ∃ r, stmtsL S M (wantP s [123]) = r := ⟨_, rfl⟩
 rw [hL] at hK hsp
 dsimp only at hK hsp
 subst hK
 refine b52.go 20 rfl fun hsm => ?_
 simp only [smw] at hsm
 simp only [W, seval, c52]
 first
  | refine PP.call0 (want_pp bs h0 hl s [123]) hc hok fun hok1 => ?_
  | refine PP.call (want_pp bs h0 hl s [123]) hc hok fun hok1 => ?_
 refine ARun.go 20 ?_
 simp only [W, seval, c52]
 refine PP.call0 hsp hc hok1 fun hok2 => ?_
 refine ARun.go 20 ?_
 simp only [W, seval, c52]
 first
  | refine PP.call0 (want_pp bs h0 hl s1 [125]) hc hok2 fun hok3 => ?_
  | refine PP.call (want_pp bs h0 hl s1 [125]) hc hok2 fun hok3 => ?_
 refine ARun.go 20 ?_
 simp only [W, seval, c52]
 refine ARun.ret Tryz.func52 rfl (PF.ret0 (fun _ _ => rfl) ?_)
 exact ⟨rfl, 0, hok3, rfl⟩
def c132 := by
 have c := KK_of Tryz.f132 (by conv => lhs; cbv)
 dsimp only [KK, KxP, doO, opO, List.map_cons, List.map_nil, List.toList_toArray] at c
 exact c
theorem b132 : FnIs Tryz.prog 132 Tryz.f132 32 := ⟨Tryz.func132, by kernel_rfl⟩
theorem fits_pf2 {B J : List (List V)} {T K : List (Nat × Nat)} {c : Nat} {x y : List V} (hf : Fits ⟨B.set c x, T⟩) (hy : ∀ n m, y.all (fit n m) = true) (hJ : ∀ vs ∈ J, vs.all (fit (B.set c y ++ J).length (T ++ K).length) = true) : Fits ⟨B.set c y ++ J, T ++ K⟩ := by
 have h1 := Fits.set hf (i := c) (hy (B.set c x).length T.length)
 rw [List.set_set] at h1
 exact h1.more hJ
theorem ARun_split {P : Program} {I : Inv} {z : Nat × Nat} {fn : FuncId} {R : V → Mem → Prop} {k : List Item} {env : List V} {L J J2 : List (List V)} {T : List (Nat × Nat)} (h : ARun P I z fn k env ⟨(L ++ J) ++ J2, T ++ []⟩ R) : ARun P I z fn k env ⟨L ++ (J ++ J2), T⟩ R := by
 rwa [List.append_nil, List.append_assoc] at h
def ze10 : List V := [.d (.int .i64 0), .sl [] .full, .d (.int .i64 0), .d (.str []), .sl [] .full, .sl [] .full, .sl [] .full, .sl [] .full, .sl [] .full, .sl [] .full]
def setL (l : List ExT) (t : Nat) : List V := [.d (.int .i64 2), .sl [] .full, .d (.int .i64 0), .d (.str []), .sl [] .full, .sl (l.map exD) (.own t), .sl [] .full, .sl [] .full, .sl [] .full, .sl [] .full]
set_option maxHeartbeats 8000000 in
theorem set_pp (bs : List UInt8) (h0 : True) (hl : bs.length ≤ 100000) {E : EP} {n : Nat} (hE : EOk bs E n) (hd : DnE E) (m : Nat) (hnm : n ≤ m) (s : Ps) (hs : mu s < n) :
 PP bs 132 [] s (stV (setP E m s).1) (setP E m s).2 := by
 intro c B T i hc hok
 obtain ⟨N, hn⟩ : ∃ N, B.length = N := ⟨_, rfl⟩
 obtain ⟨t, ht⟩ : ∃ t, T.length = t := ⟨_, rfl⟩
 have hi : c < N := by omega
 have hi2 : c < N + 2 := by omega
 have hN1 : N < N + 2 := by omega
 have hN2 : N + 1 < N + 2 := by omega
 have ht1 : t < t + 1 := by omega
 have hmu := hok.mu_le
 obtain ⟨K, hK⟩ : ∃ K, setP E m s = K := ⟨_, rfl⟩
 rw [hK]
 unfold setP at hK
 obtain ⟨⟨l0, s0⟩, hL⟩ : ∃ r, leftL m m s = r := ⟨_, rfl⟩
 rw [hL] at hK
 dsimp only at hK
 refine b132.go 0 rfl fun hsm => ?_
 simp only [smw] at hsm
 simp only [W, seval, c132, hn, hi]
 refine ARun.fits fun hf => ?_
 refine ARun.go 14 ?_
 simp only [W, seval, c132, hn, hi]
 refine ARun.tokenB (N + 1) 5 _ [] (by rw [bx_loc (by simpa using hn)]; rfl) (by rfl) 8 (by omega) rfl ?_
 rw [bx_set_loc (by simpa using hn)]
 change ARun _ _ _ _ _ _ ⟨B.set c (bxP bs s) ++ [ze10, setL [] T.length], T ++ [(0, 8)]⟩ _
 rw [ht]
 refine ARun.go 5 ?_
 simp only [W, seval, c132]
 refine ARun.after [_, _] _ (fun _ : Unit => (envS 32 [(0, .ptr c 0), (2, .ptr N 0), (3, .ptr (N + 1) 0)], ⟨B.set c (bxP bs s0) ++ [ze10, setL l0 t], T ++ [(l0.length, 8)]⟩)) (fun _ => OkP bs s0 ∧ mu s0 ≤ mu s) ?_ ?_
 ·rintro ⟨⟩ ⟨hok0, hm0⟩
  have hd1 := (dn_want s0 [61]).le
  have hvp := values_pp bs h0 hl hE hd m (wantP s0 [61]) (by omega) (by omega)
  obtain ⟨⟨v, s1⟩, hV⟩ : ∃ r, valsP E m (wantP s0 [61]) = r := ⟨_, rfl⟩
  rw [hV] at hK hvp
  dsimp only at hK hvp
  subst hK
  refine ARun.go 20 ?_
  simp only [W, seval, c132]
  first
   | refine PP.call0 (want_pp bs h0 hl s0 [61]) hc hok0 fun hok1 => ?_
   | refine PP.call (want_pp bs h0 hl s0 [61]) hc hok0 fun hok1 => ?_
  refine ARun.go 20 ?_
  simp only [W, seval, c132]
  refine PP.call hvp hc hok1 fun hok2 => ?_
  refine ARun.go 40 ?_
  simp only [W, seval, c132, hn, hi, setL, ze10]
  refine retc (v := ?_) Tryz.func132 (by rfl) ?_ ?_
  rotate_left
  ·simp only [W, seval, c132, hn, hi]
   exact rfl
  refine PF.ret (fun _ _ => rfl) ?_
  refine ⟨?_, 0, hok2, rfl⟩
  simp only [W, seval, c132, wk, wkL, stV, List.length_set, ht, Nat.lt_irrefl]
  rfl
 intro K' hend
 refine ARun.loopA (fun a : List ExT × Bool × Ps => (envS 32 [(0, .ptr c 0), (2, .ptr N 0), (3, .ptr (N + 1) 0), (4, .d (.bool a.2.1))], ⟨B.set c (bxP bs a.2.2) ++ [ze10, setL a.1 t], T ++ [(a.1.length, 8)]⟩)) (fun a => OkP bs a.2.2 ∧ mu a.2.2 ≤ mu s ∧ (a.2.1 = true → a.1.length + mu a.2.2 ≤ mu s ∧ ∃ k, mu a.2.2 < k ∧ (a.1 ++ (leftL m k a.2.2).1, (leftL m k a.2.2).2) = (l0, s0)) ∧ (a.2.1 = false → (a.1, a.2.2) = (l0, s0))) (fun a => if a.2.1 = true then mu a.2.2 + 1 else 0) ([], true, s) ⟨hok, Nat.le_refl _, fun _ => ⟨by simp, m, by dsimp only; omega, by dsimp only; rw [hL, List.nil_append]⟩, fun h => absurd h (by simp)⟩ ?_ rfl ?_
 ·skip
  refine Agree.env _ ?_
  simp only [agw, seval, hn]
 rintro ⟨l, b, s1⟩ ⟨hok1, hn2, hy, hno⟩ ih0
 dsimp only at hok1 hn2 hy hno ih0 ⊢
 cases b
 case' false =>
  obtain ⟨rfl, rfl⟩ := Prod.mk.inj (hno rfl)
  refine ARun.goK (k := [_, _, _]) 20 ?_
  simp only [W, seval, c132, hn, hi]
  refine hend () ⟨hok1, hn2⟩ _ _ ?_ rfl
  refine Agree.env _ ?_
  simp only [agw, seval, hn]
 case' true =>
  obtain ⟨hle, k, hk, hr⟩ := hy rfl
  cases k with
  | zero => omega
  | succ k =>
  rw [leftL] at hr
  refine ARun.goK (k := [_, _, _]) 20 ?_
  simp only [W, seval, c132, hn, hi]
  obtain ⟨⟨tx, s2⟩, hg_s2⟩ : ∃ r, nameP s1 = r := ⟨_, rfl⟩
  have hp_s2 := name_pp bs h0 hl s1
  rw [hg_s2] at hp_s2
  dsimp only at hp_s2
  first
   | refine PP.call0 hp_s2 hc hok1 fun hok2 => ?_
   | refine PP.call hp_s2 hc hok1 fun hok2 => ?_
  have hd2 := (dn_name hg_s2).le
  rw [hg_s2] at hr
  dsimp only at hr
  refine ARun.goK 20 ?_
  simp only [W, seval, c132, hn, hi]
  refine ARun.plainJ 2 _ (exL (.mk 1 tx 0 noT [] [])) (by rfl) (.same (.same (.same (.same (.same (.sl (.sl (.sl .nil)))))))) ?_
  obtain ⟨⟨y0, s3⟩, hY⟩ : ∃ r, dotL m (.mk 1 tx 0 noT [] []) s2 = r := ⟨_, rfl⟩
  rw [hY] at hr
  dsimp only at hr
  have hd3 := (dn_dot m hY).le
  refine ARun.after [_, _] _ (fun _ : Unit => (envS 32 [(0, .ptr c 0), (2, .ptr N 0), (3, .ptr (N + 1) 0), (5, .ptr (N + 2) 0)], ⟨B.set c (bxP bs s3) ++ [ze10, setL l t, exL y0], T ++ [(l.length, 8)]⟩)) (fun _ => OkP bs s3) ?_ ?_
  case' refine_2 =>
   intro K2 hend2
   refine ARun.loopW (fun a : ExT × Ps => (envS 32 [(0, .ptr c 0), (2, .ptr N 0), (3, .ptr (N + 1) 0), (5, .ptr (N + 2) 0)], ⟨B.set c (bxP bs a.2) ++ [ze10, setL l t, exL a.1], T ++ [(l.length, 8)]⟩)) (fun a => OkP bs a.2 ∧ ∃ q, mu a.2 < q ∧ dotL q a.1 a.2 = (y0, s3)) (fun a => mu a.2) (.mk 1 tx 0 noT [] [], s2) ⟨hok2, m, by dsimp only; omega, hY⟩ ?_ rfl ?_
   ·skip
    refine Agree.env _ ?_
    simp only [agw, seval, hn]
   rintro ⟨x, s4⟩ ⟨hok4, q, hq, hr4⟩ ih
   dsimp only at hok4 hq hr4 ih ⊢
   cases q with
   | zero => omega
   | succ q =>
   rw [dotL] at hr4
   refine ARun.goK (k := [_, _, _]) 20 ?_
   simp only [W, seval, c132, hn, hi]
   obtain ⟨⟨b, s5⟩, hg_s5⟩ : ∃ r, gotP s4 [46] = r := ⟨_, rfl⟩
   have hp_s5 := got_pp bs h0 hl s4 [46]
   rw [hg_s5] at hp_s5
   dsimp only at hp_s5
   first
    | refine PP.call0 hp_s5 hc hok4 fun hok5 => ?_
    | refine PP.call hp_s5 hc hok4 fun hok5 => ?_
   rw [hg_s5] at hr4
   cases b
   case' false =>
    dsimp only at hr4
    obtain ⟨rfl, rfl⟩ := Prod.mk.inj hr4
    refine ARun.goK 20 ?_
    simp only [W, seval, c132, hn, hi]
    refine hend2 () hok5 _ _ ?_ rfl
    refine Agree.env _ ?_
    simp only [agw, seval, hn]
   case' true =>
    have hlt := got_lt hg_s5
    dsimp only at hr4
    obtain ⟨⟨ty, s6⟩, hnm6⟩ : ∃ r, nameP s5 = r := ⟨_, rfl⟩
    have hpn := name_pp bs h0 hl s5
    have hdn := (dn_name hnm6).le
    rw [hnm6] at hpn hr4
    dsimp only at hpn hr4
    refine ARun.goK 5 ?_
    simp only [W, seval, c132, hn, hi]
    refine PP.wit hpn hc hok5 (ha0 (by rfl)) fun hok6 => ?_
    refine ARun.drawE 5 [1, 5] (fun S => S.boxes[N + 2]? = some (exL x)) (by kernel_rfl) (by kernel_rfl) (by kernel_rfl) (by kernel_rfl) (by kernel_rfl) ?_
    simp only [W, seval, c132]
    refine lexC_q (v := ?_) (by rfl) (by kernel_rfl) (fun S hS => ?_) ?_
    rotate_left
    ·simp only [W, seval, c132]
     exact rfl
    simp only [W, seval, c132]
    refine PP.lexc (hpn) hc hok5 hok6 ?_ (by rfl) (by kernel_rfl) ?_ ?_
    ·first | trivial | simp [bx_loc, bx_loc0, hn]
    ·simp only [W, seval, c132]
     exact ⟨_, _, rfl, rfl, by rfl, by simp only [W, seval, c132]⟩
    simp only [W, seval, c132]
    refine lexC_q (v := ?_) (by rfl) (by kernel_rfl) (fun S hS => ?_) ?_
    rotate_left
    ·try dsimp only at hS
     simp only [W, seval, c132, hS, exL]
     exact rfl
    simp only [W, seval, c132]
    refine lexC_q (v := ?_) (by rfl) (by kernel_rfl) (fun S hS => ?_) ?_
    rotate_left
    ·simp only [W, seval, c132, mapD_nil, mapD_cons, Nat.reduceMul, rows8]
     exact rfl
    simp only [W, seval, c132]
    refine lexC_q (v := ?_) (by rfl) (by kernel_rfl) (fun S hS => ?_) ?_
    rotate_left
    ·simp only [W, seval, c132]
     exact rfl
    simp only [W, seval, c132]
    refine lexC_end (by simp [bx_loc, hn]) ?_
    refine lexC_w (v := ?_) (S' := ?_) ?_ (by rfl) (by kernel_rfl) ?_ ?_
    rotate_left 2
    ·first | trivial | simp [bx_loc, bx_loc0, hn, exL]
    ·simp only [W, seval, c132, hn, exL]
     exact rfl
    simp only [W, seval, c132]
    refine lexC_end trivial ?_
    refine ARun.plainJ 2 _ (exL (.mk 9 ty 0 noT [] [x])) (by rfl) (.same (.same (.same (.same (.same (.sl (.sl (.sl .nil)))))))) ?_
    refine ARun.goK (k := [_, _]) 5 ?_
    simp only [W, seval, c132]
    refine ih (.mk 9 ty 0 noT [] [x], s6) ⟨hok6, q, by dsimp only; omega, hr4⟩ (by dsimp only; omega) _ _ ?_ rfl
    refine Agree.env _ ?_
    simp only [agw, seval, hn]
  rintro ⟨⟩ hok3
  have hcap : (l.length + 1) * 128 ≤ 140737488355328 := by omega
  have hmap : l.map exD ++ [exD y0] = (l ++ [y0]).map exD := by simp
  have hlen : (l ++ [y0]).length = l.length + 1 := by simp
  refine ARun.goK (k := [_, _, _, _, _]) 40 ?_
  simp only [W, seval, c132, hn, hi, ht, setL, exL, mapD_nil, mapD_cons, Nat.reduceMul, rows8, hcap, hmap, ex1]
  obtain ⟨⟨b, s5⟩, hg_s5⟩ : ∃ r, gotP s3 [44] = r := ⟨_, rfl⟩
  have hp_s5 := got_pp bs h0 hl s3 [44]
  rw [hg_s5] at hp_s5
  dsimp only at hp_s5
  first
   | refine PP.call0 hp_s5 hc hok3 fun hok5 => ?_
   | refine PP.call hp_s5 hc hok3 fun hok5 => ?_
  rw [hg_s5] at hr
  have hd5 := (dn_got hg_s5).le
  have hfit : ∀ b5 : Ps, Fits ⟨B.set c (bxP bs b5) ++ [ze10, setL (l ++ [y0]) t], T ++ [((l ++ [y0]).length, 8)]⟩ := fun b5 => fits_pf2 hf (fun _ _ => rfl) (by
   intro vs hvs
   simp only [List.mem_cons, List.not_mem_nil, or_false] at hvs
   rcases hvs with rfl | rfl
   ·rfl
   ·simp [setL, fit, ht])
  cases b
  case' false =>
   dsimp only at hr
   obtain ⟨hr1, hr2⟩ := Prod.mk.inj hr
   refine ARun.goK 20 ?_
   simp only [W, seval, c132, hn, hi]
   refine ARun_split (J := [_, _]) (J2 := [_]) ?_
   refine ih0 (l ++ [y0], false, s5) ⟨hok5, by dsimp only; omega, fun h => absurd h (by simp), fun _ => by rw [hr1, hr2]⟩ (by simp) _ _ _ _ _ (by dsimp only; rw [hlen]; rfl) ⟨by simp; omega, by simp; omega⟩ (by rw [← hlen]; exact hfit s5) ?_
   refine AgreeF.env _ ?_
   simp only [agf, seval, hn, ht, hi2, hN1, hN2, ht1, List.length_append, List.length_cons, List.length_nil, Nat.zero_add]
  case' true =>
   have hlt := got_lt hg_s5
   dsimp only at hr
   refine ARun.goK 20 ?_
   simp only [W, seval, c132, hn, hi]
   refine ARun_split (J := [_, _]) (J2 := [_]) ?_
   refine ih0 (l ++ [y0], true, s5) ⟨hok5, by dsimp only; omega, fun _ => ⟨by dsimp only; omega, k, by dsimp only; omega, by rw [← hr]; simp⟩, fun h => absurd h (by simp)⟩ (by simp; omega) _ _ _ _ _ (by dsimp only; rw [hlen]; rfl) ⟨by simp; omega, by simp; omega⟩ (by rw [← hlen]; exact hfit s5) ?_
   refine AgreeF.env _ ?_
   simp only [agf, seval, hn, ht, hi2, hN1, hN2, ht1, List.length_append, List.length_cons, List.length_nil, Nat.zero_add]
def c130 := by
 have c := KK_of Tryz.f130 (by conv => lhs; cbv)
 dsimp only [KK, KxP, doO, opO, List.map_cons, List.map_nil, List.toList_toArray] at c
 exact c
theorem b130 : FnIs Tryz.prog 130 Tryz.f130 38 := ⟨Tryz.func130, by kernel_rfl⟩
theorem PF.ret2K {B : List (List V)} {T K : List (Nat × Nat)} {c : Nat} {x y Z X0 X1 : List V} {R : V → Mem → Prop} {v : V} (hc : c < B.length) (hy : ∀ n m, y.all (fit n m) = true) (hX : ∀ n m, X1.all (fit n m) = true) (h : R (wk (B.set c x ++ [Z, X0]).length T.length v) ⟨B.set c y ++ [Z, X1], T⟩) : Ab.Left ⟨B.set c x ++ [Z, X0], T⟩ R v ⟨B.set c y ++ [Z, X1], T ++ K⟩ := by
 have h1 := ((FitL.refl (B.set c x ++ [Z, X0]).length T.length (B.set c x ++ [Z, X0])).set c (hy _ _)).set (B.length + 1) (hX _ _)
 rw [List.set_append_left _ _ (by simpa using hc), List.set_set, List.set_append_right _ _ (by simp)] at h1
 have e : [Z, X0].set (B.length + 1 - (B.set c y).length) X1 = [Z, X1] := by
  rw [List.length_set, Nat.add_sub_cancel_left]
  rfl
 rw [e] at h1
 have := Ab.Left.of (B := B.set c x ++ [Z, X0]) (J := []) (K := K) (R := R) (v := v) (by simp) rfl h1 h
 rwa [List.append_nil] at this
theorem fits_Z {B : List (List V)} {T K : List (Nat × Nat)} {c : Nat} {x y Z X0 X1 : List V} (hf : Fits ⟨B.set c x ++ [Z, X0], T⟩) (hc : c < B.length) (hy : ∀ n m, y.all (fit n m) = true) (hX : X1.all (fit (B.length + 2) (T ++ K).length) = true) : Fits ⟨B.set c y ++ [Z, X1], T ++ K⟩ := by
 have h1 := Fits.set hf (i := c) (hy (B.set c x ++ [Z, X0]).length T.length)
 rw [List.set_append_left _ _ (by simpa using hc), List.set_set] at h1
 have h2 := h1.more (X := []) (Y := K) (fun vs hvs => absurd hvs List.not_mem_nil)
 rw [List.append_nil] at h2
 have h3 := Fits.set h2 (i := B.length + 1) (vs := X1) (by simpa using hX)
 rw [List.set_append_right _ _ (by simp), List.length_set, Nat.add_sub_cancel_left] at h3
 exact h3
def stL (s : StT) : List V := [.d (.int .i64 s.kind), .d (.sl (ssD s.names)), .d (.int .i64 s.type.kind), .d (.str s.type.name), .d (.sl (s.type.elem.map tyD)), .d (.sl (s.lefts.map exD)), .d (.sl (s.exprs.map exD)), .d (.sl (s.body.map stD)), .d (.sl (s.els.map stD)), .d (.sl (s.cases.map caD))]
def swL (x : ExT) : List V := [.d (.int .i64 5), .sl [] .full, .d (.int .i64 0), .d (.str []), .sl [] .full, .sl [] .full, .d (.sl [exD x]), .sl [] .full, .sl [] .full, .sl [] .full]
def swT (x : ExT) (l : List CaT) (t : Nat) : List V := [.d (.int .i64 5), .sl [] .full, .d (.int .i64 0), .d (.str []), .sl [] .full, .sl [] .full, .d (.sl [exD x]), .sl [] .full, .sl [] .full, .sl (l.map caD) (.own t)]
theorem rows2 (i : Int) (b : List StT) : [D.int .u64 i, .sl (b.map stD)] = caD (.mk i b) := (caD_eq (.mk i b)).symm
theorem ca1 (x : CaT) : rowsSz 2 [caD x] = true := rowsSz_ca [x]
set_option maxHeartbeats 8000000 in
theorem cases_ab (bs : List UInt8) (h0 : True) (hl : bs.length ≤ 100000) {S : SP} {n : Nat} (hS : SOk bs S n) (hdS : DnE S) (M : Nat) (s : Ps) (hn1 : mu s < n) (hM : mu s < M) (x : ExT) (Z : List V) (c : Nat) (B : List (List V)) (T : List (Nat × Nat)) (hc : c < B.length) (hok : OkP bs s)
 (cs : List CaT) (s2 : Ps) (els : List StT) (s3 : Ps) (hC : casL S M M (wantP s [123]) = (cs, s2)) (hEl : elseP S M s2 = (els, s3)) :
 AFn Tryz.prog TabI 130 [.ptr c 0, .ptr (B.length + 1) 0] ⟨B.set c (bxP bs s) ++ [Z, swL x], T⟩ fun v m => v = .tup [] ∧ OkP bs (wantP s3 [125]) ∧ m = ⟨B.set c (bxP bs (wantP s3 [125])) ++ [Z, stL (.mk 5 [] noT [] [x] [] els cs)], T⟩ := by
 obtain ⟨N, hn⟩ : ∃ N, B.length = N := ⟨_, rfl⟩
 obtain ⟨t, ht⟩ : ∃ t, T.length = t := ⟨_, rfl⟩
 have hi : c < N := by omega
 have hi2 : c < N + 2 := by omega
 have hN1 : N < N + 2 := by omega
 have hN2 : N + 1 < N + 2 := by omega
 have ht1 : t < t + 1 := by omega
 have hmu := hok.mu_le
 have hd1 := (dn_want s [123]).le
 rw [hn]
 refine b130.go 0 rfl fun hsm => ?_
 simp only [smw] at hsm
 simp only [W, seval, c130, hn, hi]
 refine ARun.fits fun hf => ?_
 refine ARun.go 14 ?_
 simp only [W, seval, c130, hn, hi]
 refine PP.call (want_pp bs h0 hl s [123]) hc hok fun hok1 => ?_
 refine ARun.go 2 ?_
 simp only [W, seval, c130]
 refine ARun.tokenB (N + 1) 9 _ [] (by rw [bx_loc (by simpa using hn)]; rfl) (by rfl) 2 (by omega) rfl ?_
 rw [bx_set_loc (by simpa using hn)]
 change ARun _ _ _ _ _ _ ⟨B.set c (bxP bs (wantP s [123])) ++ [Z, swT x [] T.length], T ++ [(0, 2)]⟩ _
 rw [ht]
 refine ARun.go 5 ?_
 simp only [W, seval, c130]
 have hfit : ∀ (b5 : Ps) (l : List CaT), Fits ⟨B.set c (bxP bs b5) ++ [Z, swT x l t], T ++ [(l.length, 2)]⟩ := fun b5 l => fits_Z hf hc (fun _ _ => rfl) (by simp [swT, fit, ht])
 refine ARun.after [_, _] _ (fun _ : Unit => (envS 38 [(0, .ptr c 0), (1, .ptr (N + 1) 0)], ⟨B.set c (bxP bs s2) ++ [Z, swT x cs t], T ++ [(cs.length, 2)]⟩)) (fun _ => OkP bs s2 ∧ mu s2 ≤ mu s) ?_ ?_
 ·rintro ⟨⟩ ⟨hok2, hm2⟩
  unfold elseP at hEl
  refine ARun.go 20 ?_
  simp only [W, seval, c130]
  obtain ⟨⟨b, s4⟩, hg_s4⟩ : ∃ r, gotP s2 [100, 101, 102, 97, 117, 108, 116] = r := ⟨_, rfl⟩
  have hp_s4 := got_pp bs h0 hl s2 [100, 101, 102, 97, 117, 108, 116]
  rw [hg_s4] at hp_s4
  dsimp only at hp_s4
  first
   | refine PP.call0 hp_s4 hc hok2 fun hok4 => ?_
   | refine PP.call hp_s4 hc hok2 fun hok4 => ?_
  rw [hg_s4] at hEl
  have hd4 := (dn_got hg_s4).le
  cases b
  case' false =>
   dsimp only at hEl
   obtain ⟨rfl, rfl⟩ := Prod.mk.inj hEl
   refine ARun.go 20 ?_
   simp only [W, seval, c130]
   first
    | refine PP.call0 (want_pp bs h0 hl s4 [125]) hc hok4 fun hok5 => ?_
    | refine PP.call (want_pp bs h0 hl s4 [125]) hc hok4 fun hok5 => ?_
   refine ARun.plainJ 1 _ (stL (.mk 5 [] noT [] [x] [] [] cs)) (by rfl) (.same (.sl (.same (.same (.sl (.sl (.same (.sl (.sl (.sl .nil)))))))))) ?_
   refine ARun.go 20 ?_
   simp only [W, seval, c130]
   refine ARun.fin Tryz.func130 rfl (PF.ret2K hc (fun _ _ => rfl) (fun _ _ => rfl) ?_)
   exact ⟨rfl, hok5, rfl⟩
  case' true =>
   dsimp only at hEl
   have hdw := (dn_want s4 [58]).le
   have hsp := stmts_pp bs hl hS M (wantP s4 [58]) (by omega) (by omega)
   rw [hEl] at hsp
   dsimp only at hsp
   refine ARun.go 20 ?_
   simp only [W, seval, c130]
   first
    | refine PP.call0 (want_pp bs h0 hl s4 [58]) hc hok4 fun hok5 => ?_
    | refine PP.call (want_pp bs h0 hl s4 [58]) hc hok4 fun hok5 => ?_
   refine ARun.go 20 ?_
   simp only [W, seval, c130]
   refine PP.call hsp hc hok5 fun hok6 => ?_
   refine ARun.go 20 ?_
   simp only [W, seval, c130, hn, hi, swT]
   first
    | refine PP.call0 (want_pp bs h0 hl s3 [125]) hc hok6 fun hok7 => ?_
    | refine PP.call (want_pp bs h0 hl s3 [125]) hc hok6 fun hok7 => ?_
   refine ARun.plainJ 1 _ (stL (.mk 5 [] noT [] [x] [] els cs)) (by rfl) (.same (.sl (.same (.same (.sl (.sl (.same (.sl (.same (.sl .nil)))))))))) ?_
   refine ARun.go 20 ?_
   simp only [W, seval, c130]
   refine ARun.fin Tryz.func130 rfl (PF.ret2K hc (fun _ _ => rfl) (fun _ _ => rfl) ?_)
   exact ⟨rfl, hok7, rfl⟩
 intro K' hend
 refine ARun.loopA (fun a : List CaT × Ps => (envS 38 [(0, .ptr c 0), (1, .ptr (N + 1) 0)], ⟨B.set c (bxP bs a.2) ++ [Z, swT x a.1 t], T ++ [(a.1.length, 2)]⟩)) (fun a => OkP bs a.2 ∧ a.1.length + mu a.2 ≤ mu s ∧ ∃ q, mu a.2 < q ∧ (a.1 ++ (casL S M q a.2).1, (casL S M q a.2).2) = (cs, s2)) (fun a => mu a.2) ([], wantP s [123]) ⟨hok1, by simp; omega, M, by dsimp only; omega, by dsimp only; rw [hC, List.nil_append]⟩ ?_ rfl ?_
 ·skip
  refine Agree.env _ ?_
  simp only [agw, seval, hn]
 rintro ⟨l, s1⟩ ⟨hok1, hle, q, hq, hr⟩ ih0
 dsimp only at hok1 hle hq hr ih0 ⊢
 cases q with
 | zero => omega
 | succ q =>
 rw [casL] at hr
 refine ARun.goK (k := [_, _, _]) 20 ?_
 simp only [W, seval, c130, hn, hi]
 obtain ⟨⟨b, s4⟩, hg_s4⟩ : ∃ r, gotP s1 [99, 97, 115, 101] = r := ⟨_, rfl⟩
 have hp_s4 := got_pp bs h0 hl s1 [99, 97, 115, 101]
 rw [hg_s4] at hp_s4
 dsimp only at hp_s4
 first
  | refine PP.call0 hp_s4 hc hok1 fun hok4 => ?_
  | refine PP.call hp_s4 hc hok1 fun hok4 => ?_
 rw [hg_s4] at hr
 cases b
 case' false =>
  dsimp only at hr
  rw [List.append_nil] at hr
  obtain ⟨rfl, rfl⟩ := Prod.mk.inj hr
  have := (dn_got hg_s4).le
  refine ARun.goK 20 ?_
  simp only [W, seval, c130, hn, hi]
  refine hend () ⟨hok4, by omega⟩ _ _ ?_ rfl
  refine Agree.env _ ?_
  simp only [agw, seval, hn]
 case' true =>
  have hlt := got_lt hg_s4
  dsimp only at hr
  refine ARun.goK 20 ?_
  simp only [W, seval, c130, hn, hi]
  obtain ⟨⟨k, s5⟩, hg_s5⟩ : ∃ r, numP s4 = r := ⟨_, rfl⟩
  have hp_s5 := num_pp bs h0 hl s4
  rw [hg_s5] at hp_s5
  dsimp only at hp_s5
  first
   | refine PP.call0 hp_s5 hc hok4 fun hok5 => ?_
   | refine PP.call hp_s5 hc hok4 fun hok5 => ?_
  have hd5 := (dn_num hg_s5).le
  rw [hg_s5] at hr
  dsimp only at hr
  refine ARun.goK 20 ?_
  simp only [W, seval, c130, hn, hi]
  have hd6 := (dn_want s5 [58]).le
  first
   | refine PP.call0 (want_pp bs h0 hl s5 [58]) hc hok5 fun hok6 => ?_
   | refine PP.call (want_pp bs h0 hl s5 [58]) hc hok5 fun hok6 => ?_
  have hsp := stmts_pp bs hl hS M (wantP s5 [58]) (by omega) (by omega)
  obtain ⟨⟨b, s7⟩, hb⟩ : ∃ r, stmtsL S M (wantP s5 [58]) = r := ⟨_, rfl⟩
  have hd7 := (dn_stmts hdS M hb).le
  rw [hb] at hsp hr
  dsimp only at hsp hr
  refine ARun.goK 20 ?_
  simp only [W, seval, c130, hn, hi]
  refine PP.call hsp hc hok6 fun hok7 => ?_
  obtain ⟨⟨l8, s8⟩, h8⟩ : ∃ r, casL S M q s7 = r := ⟨_, rfl⟩
  rw [h8] at hr
  dsimp only at hr
  have hcap : (l.length + 1) * 32 ≤ 140737488355328 := by omega
  have hmap : l.map caD ++ [caD (.mk k b)] = (l ++ [CaT.mk k b]).map caD := by simp
  have hlen : (l ++ [CaT.mk k b]).length = l.length + 1 := by simp
  refine ARun.goK 8 ?_
  simp only [W, seval, c130, hn, hi]
  refine ARun.drawE 8 [7, 10] (fun S => S.boxes[N + 1]? = some (swT x l t) ∧ S.boxes[N + 2]? = some [.d (.int .u64 k), .d (.sl (b.map stD))]) (by kernel_rfl) (by kernel_rfl) (by kernel_rfl) (by kernel_rfl) (by kernel_rfl) ?_
  simp only [W, seval, c130]
  refine lexC_q (v := ?_) (by rfl) (by kernel_rfl) (fun S hS => ?_) ?_
  rotate_left
  ·simp only [W, seval, c130]
   exact rfl
  simp only [W, seval, c130]
  refine lexC_q (v := ?_) (by rfl) (by kernel_rfl) (fun S hS => ?_) ?_
  rotate_left
  ·simp only [W, seval, c130]
   exact rfl
  simp only [W, seval, c130]
  refine lexC_q (v := ?_) (by rfl) (by kernel_rfl) (fun S hS => ?_) ?_
  rotate_left
  ·simp only [W, seval, c130]
   exact rfl
  simp only [W, seval, c130]
  refine lexC_q (v := ?_) (by rfl) (by kernel_rfl) (fun S hS => ?_) ?_
  rotate_left
  ·simp only [W, seval, c130]
   exact rfl
  simp only [W, seval, c130]
  refine lexC_q (v := ?_) (by rfl) (by kernel_rfl) (fun S hS => ?_) ?_
  rotate_left
  ·try dsimp only at hS
   simp only [W, seval, c130, hS.1, swT]
   exact rfl
  simp only [W, seval, c130]
  refine lexC_q (v := ?_) (by rfl) (by kernel_rfl) (fun S hS => ?_) ?_
  rotate_left
  ·try dsimp only at hS
   simp only [W, seval, c130, hS.2]
   exact rfl
  simp only [W, seval, c130]
  refine lexC_q (v := ?_) (by rfl) (by kernel_rfl) (fun S hS => ?_) ?_
  rotate_left
  ·simp only [W, seval, c130, mapD_nil, mapD_cons, Nat.reduceMul, rows2]
   exact rfl
  simp only [W, seval, c130]
  refine lexC_w (v := ?_) (S' := ?_) ⟨by simp [bx_loc, hn], by simp [bx_loc, hn]⟩ (by rfl) (by kernel_rfl) ?_ ?_
  rotate_left 2
  ·simp only [W, seval, c130, hn, ht, hcap, hmap, ca1, Nat.reduceMul]
   exact rfl
  simp only [W, seval, c130]
  refine lexC_end ⟨by simp [bx_loc, hn], by simp [bx_loc, hn]⟩ ?_
  refine lexC_q (v := ?_) (by rfl) (by kernel_rfl) (fun S hS => ?_) ?_
  rotate_left
  ·simp only [W, seval, c130]
   exact rfl
  simp only [W, seval, c130]
  refine lexC_q (v := ?_) (by rfl) (by kernel_rfl) (fun S hS => ?_) ?_
  rotate_left
  ·simp only [W, seval, c130]
   exact rfl
  simp only [W, seval, c130]
  refine lexC_w (v := ?_) (S' := ?_) ?_ (by rfl) (by kernel_rfl) ?_ ?_
  rotate_left 2
  ·first | trivial | simp [bx_loc, bx_loc0, hn, swT]
  ·simp only [W, seval, c130, hn, swT]
   exact rfl
  simp only [W, seval, c130]
  refine lexC_end trivial ?_
  refine ARun.goK (k := [_, _, _]) 1 ?_
  simp only [W, seval, c130]
  refine ARun_split (J := [_, _]) (J2 := [_]) ?_
  refine ih0 (l ++ [.mk k b], s7) ⟨hok7, by dsimp only; omega, q, by dsimp only; omega, by rw [← hr]; dsimp only; rw [h8]; simp⟩ (by dsimp only; omega) _ _ _ _ _ (by dsimp only; rw [hlen]; rfl) ⟨by simp; omega, by simp; omega⟩ (by rw [← hlen]; exact hfit s7 _) ?_
  refine AgreeF.env _ ?_
  simp only [agf, seval, hn, ht, hi2, hN1, hN2, ht1, List.length_append, List.length_cons, List.length_nil, Nat.zero_add]
def c109 := by
 have c := KK_of Tryz.f109 (by conv => lhs; cbv)
 dsimp only [KK, KxP, doO, opO, List.map_cons, List.map_nil, List.toList_toArray] at c
 exact c
theorem b109 : FnIs Tryz.prog 109 Tryz.f109 54 := ⟨Tryz.func109, by kernel_rfl⟩
set_option maxHeartbeats 8000000 in
theorem stmt_pp (bs : List UInt8) (h0 : True) (hl : bs.length ≤ 100000) {E : EP} {S : SP} {n : Nat} (hE : EOk bs E (n + 1)) (hdE : DnE E) (hS : SOk bs S n) (hdS : DnE S) (m : Nat) (hm : n < m) (s : Ps) (hs : mu s < n + 1) :
 PP bs 109 [] s (stV (stmtP E S m s).1) (stmtP E S m s).2 := by
 intro c B T i hc hok
 obtain ⟨N, hn⟩ : ∃ N, B.length = N := ⟨_, rfl⟩
 have hi : c < N := by omega
 obtain ⟨K, hK⟩ : ∃ K, stmtP E S m s = K := ⟨_, rfl⟩
 rw [hK]
 unfold stmtP at hK
 refine b109.go 20 rfl fun hsm => ?_
 simp only [smw] at hsm
 simp only [W, seval, c109, hn, hi]
 obtain ⟨⟨b, s1⟩, hg_s1⟩ : ∃ r, gotP s [118, 97, 114] = r := ⟨_, rfl⟩
 have hp_s1 := got_pp bs h0 hl s [118, 97, 114]
 rw [hg_s1] at hp_s1
 dsimp only at hp_s1
 first
  | refine PP.call0 hp_s1 hc hok fun hok1 => ?_
  | refine PP.call hp_s1 hc hok fun hok1 => ?_
 rw [hg_s1] at hK
 cases b
 case' true =>
  have hlt := got_lt hg_s1
  dsimp only at hK
  refine ARun.go 20 ?_
  simp only [W, seval, c109, hn, hi]
  obtain ⟨⟨tx, s2⟩, hg_s2⟩ : ∃ r, nameP s1 = r := ⟨_, rfl⟩
  have hp_s2 := name_pp bs h0 hl s1
  rw [hg_s2] at hp_s2
  dsimp only at hp_s2
  first
   | refine PP.call0 hp_s2 hc hok1 fun hok2 => ?_
   | refine PP.call hp_s2 hc hok1 fun hok2 => ?_
  have hd2 := (dn_name hg_s2).le
  have htp := typ_pp bs h0 hl m s2 (by omega)
  obtain ⟨⟨y, s3⟩, hy⟩ : ∃ r, typP m s2 = r := ⟨_, rfl⟩
  rw [hg_s2] at hK
  dsimp only at hK
  rw [hy] at hK htp
  dsimp only at hK htp
  subst hK
  unfold tyV at htp
  refine ARun.go 40 ?_
  simp only [W, seval, c109, hn, hi, mapD_nil, mapD_cons, Nat.reduceMul]
  refine PP.call htp hc hok2 fun hok3 => ?_
  refine ARun.go 60 ?_
  simp only [W, seval, c109, hn, hi]
  refine retc (v := ?_) Tryz.func109 (by rfl) ?_ ?_
  rotate_left
  ·simp only [W, seval, c109, hn, hi]
   exact rfl
  refine PF.retJ (fun _ _ => rfl) ?_
  exact ⟨rfl, 0, hok3, rfl⟩
 have e1 := got_no hg_s1
 subst e1
 dsimp only at hK
 refine ARun.go 20 ?_
 simp only [W, seval, c109, hn, hi]
 obtain ⟨⟨b, s2⟩, hg_s2⟩ : ∃ r, gotP s1 [105, 102] = r := ⟨_, rfl⟩
 have hp_s2 := got_pp bs h0 hl s1 [105, 102]
 rw [hg_s2] at hp_s2
 dsimp only at hp_s2
 first
  | refine PP.call0 hp_s2 hc hok1 fun hok2 => ?_
  | refine PP.call hp_s2 hc hok1 fun hok2 => ?_
 rw [hg_s2] at hK
 cases b
 case' true =>
  have hlt := got_lt hg_s2
  dsimp only at hK
  obtain ⟨⟨x, s3⟩, hx⟩ : ∃ r, headP E s2 = r := ⟨_, rfl⟩
  have hhp := head_pp bs hE s2 (by omega)
  have hd3 := (dn_head hdE hx).le
  rw [hx] at hhp hK
  dsimp only at hhp hK
  obtain ⟨⟨b1, s4⟩, hb1⟩ : ∃ r, blockP S m s3 = r := ⟨_, rfl⟩
  have hbp := block_pp bs h0 hl hS m s3 (by omega) (by omega)
  have hd4 := (dn_block hdS hb1).le
  rw [hb1] at hbp hK
  dsimp only at hbp hK
  refine ARun.go 20 ?_
  simp only [W, seval, c109, hn, hi]
  refine PP.call hhp hc hok2 fun hok3 => ?_
  refine ARun.go 40 ?_
  simp only [W, seval, c109, hn, hi]
  refine PP.call hbp hc hok3 fun hok4 => ?_
  refine ARun.go 40 ?_
  simp only [W, seval, c109, hn, hi]
  obtain ⟨⟨b, s5⟩, hg_s5⟩ : ∃ r, gotP s4 [101, 108, 115, 101] = r := ⟨_, rfl⟩
  have hp_s5 := got_pp bs h0 hl s4 [101, 108, 115, 101]
  rw [hg_s5] at hp_s5
  dsimp only at hp_s5
  first
   | refine PP.call0 hp_s5 hc hok4 fun hok5 => ?_
   | refine PP.call hp_s5 hc hok4 fun hok5 => ?_
  rw [hg_s5] at hK
  have hd5 := (dn_got hg_s5).le
  cases b
  case' true =>
   dsimp only at hK
   obtain ⟨⟨b2, s6⟩, hb2⟩ : ∃ r, blockP S m s5 = r := ⟨_, rfl⟩
   have hbp := block_pp bs h0 hl hS m s5 (by omega) (by omega)
   rw [hb2] at hbp hK
   dsimp only at hbp hK
   subst hK
   refine ARun.go 40 ?_
   simp only [W, seval, c109, hn, hi]
   refine PP.call hbp hc hok5 fun hok6 => ?_
   refine ARun.go 60 ?_
   simp only [W, seval, c109, hn, hi]
   refine retc (v := ?_) Tryz.func109 (by rfl) ?_ ?_
   rotate_left
   ·simp only [W, seval, c109, hn, hi]
    exact rfl
   refine PF.retJ (fun _ _ => rfl) ?_
   exact ⟨rfl, 0, hok6, rfl⟩
  case' false =>
   dsimp only at hK
   subst hK
   refine ARun.go 60 ?_
   simp only [W, seval, c109, hn, hi]
   refine retc (v := ?_) Tryz.func109 (by rfl) ?_ ?_
   rotate_left
   ·simp only [W, seval, c109, hn, hi]
    exact rfl
   refine PF.retJ (fun _ _ => rfl) ?_
   exact ⟨rfl, 0, hok5, rfl⟩
 have e2 := got_no hg_s2
 subst e2
 dsimp only at hK
 refine ARun.go 20 ?_
 simp only [W, seval, c109, hn, hi]
 obtain ⟨⟨b, s3⟩, hg_s3⟩ : ∃ r, gotP s2 [102, 111, 114] = r := ⟨_, rfl⟩
 have hp_s3 := got_pp bs h0 hl s2 [102, 111, 114]
 rw [hg_s3] at hp_s3
 dsimp only at hp_s3
 first
  | refine PP.call0 hp_s3 hc hok2 fun hok3 => ?_
  | refine PP.call hp_s3 hc hok2 fun hok3 => ?_
 rw [hg_s3] at hK
 cases b
 case' true =>
  have hlt := got_lt hg_s3
  dsimp only at hK
  obtain ⟨⟨x, s4⟩, hx⟩ : ∃ r, headP E s3 = r := ⟨_, rfl⟩
  have hhp := head_pp bs hE s3 (by omega)
  have hd3 := (dn_head hdE hx).le
  rw [hx] at hhp hK
  dsimp only at hhp hK
  obtain ⟨⟨b1, s5⟩, hb1⟩ : ∃ r, blockP S m s4 = r := ⟨_, rfl⟩
  have hbp := block_pp bs h0 hl hS m s4 (by omega) (by omega)
  rw [hb1] at hbp hK
  dsimp only at hbp hK
  subst hK
  refine ARun.go 20 ?_
  simp only [W, seval, c109, hn, hi]
  refine PP.call hhp hc hok3 fun hok4 => ?_
  refine ARun.go 40 ?_
  simp only [W, seval, c109, hn, hi]
  refine PP.call hbp hc hok4 fun hok5 => ?_
  refine ARun.go 60 ?_
  simp only [W, seval, c109, hn, hi]
  refine retc (v := ?_) Tryz.func109 (by rfl) ?_ ?_
  rotate_left
  ·simp only [W, seval, c109, hn, hi]
   exact rfl
  refine PF.retJ (fun _ _ => rfl) ?_
  exact ⟨rfl, 0, hok5, rfl⟩
 have e3 := got_no hg_s3
 subst e3
 dsimp only at hK
 refine ARun.go 20 ?_
 simp only [W, seval, c109, hn, hi]
 obtain ⟨⟨b, s4⟩, hg_s4⟩ : ∃ r, gotP s3 [115, 119, 105, 116, 99, 104] = r := ⟨_, rfl⟩
 have hp_s4 := got_pp bs h0 hl s3 [115, 119, 105, 116, 99, 104]
 rw [hg_s4] at hp_s4
 dsimp only at hp_s4
 first
  | refine PP.call0 hp_s4 hc hok3 fun hok4 => ?_
  | refine PP.call hp_s4 hc hok3 fun hok4 => ?_
 rw [hg_s4] at hK
 cases b
 case' true =>
  have hlt := got_lt hg_s4
  dsimp only at hK
  obtain ⟨⟨x, s5⟩, hx⟩ : ∃ r, headP E s4 = r := ⟨_, rfl⟩
  have hhp := head_pp bs hE s4 (by omega)
  have hd3 := (dn_head hdE hx).le
  rw [hx] at hhp hK
  dsimp only at hhp hK
  obtain ⟨⟨cs, s6⟩, hC⟩ : ∃ r, casL S m m (wantP s5 [123]) = r := ⟨_, rfl⟩
  obtain ⟨⟨el, s7⟩, hEl⟩ : ∃ r, elseP S m s6 = r := ⟨_, rfl⟩
  rw [hC] at hK
  dsimp only at hK
  rw [hEl] at hK
  dsimp only at hK
  subst hK
  refine ARun.go 20 ?_
  simp only [W, seval, c109, hn, hi]
  refine PP.call hhp hc hok4 fun hok5 => ?_
  refine ARun.go 40 ?_
  simp only [W, seval, c109, hn, hi]
  have hca := cases_ab bs h0 hl hS hdS m s5 (by omega) (by omega) x ze10 c B T hc hok5 cs s6 el s7 hC hEl
  rw [hn] at hca
  refine callS_fn hca ?_
  rintro _ _ ⟨rfl, hok6, rfl⟩
  refine ARun.go 60 ?_
  simp only [W, seval, c109, hn, hi, stL, ze10]
  refine retc (v := ?_) Tryz.func109 (by rfl) ?_ ?_
  rotate_left
  ·simp only [W, seval, c109, hn, hi]
   exact rfl
  refine PF.retJ (fun _ _ => rfl) ?_
  exact ⟨rfl, 0, hok6, rfl⟩
 have e4 := got_no hg_s4
 subst e4
 dsimp only at hK
 refine ARun.go 20 ?_
 simp only [W, seval, c109, hn, hi]
 obtain ⟨⟨b, s5⟩, hg_s5⟩ : ∃ r, gotP s4 [114, 101, 116, 117, 114, 110] = r := ⟨_, rfl⟩
 have hp_s5 := got_pp bs h0 hl s4 [114, 101, 116, 117, 114, 110]
 rw [hg_s5] at hp_s5
 dsimp only at hp_s5
 first
  | refine PP.call0 hp_s5 hc hok4 fun hok5 => ?_
  | refine PP.call hp_s5 hc hok4 fun hok5 => ?_
 rw [hg_s5] at hK
 cases b
 case' true =>
  have hlt := got_lt hg_s5
  dsimp only at hK
  obtain ⟨⟨l, s6⟩, hL⟩ : ∃ r, valsP E m s5 = r := ⟨_, rfl⟩
  have hvp := values_pp bs h0 hl hE hdE m s5 (by omega) (by omega)
  rw [hL] at hvp hK
  dsimp only at hvp hK
  subst hK
  refine ARun.go 20 ?_
  simp only [W, seval, c109, hn, hi]
  refine PP.call hvp hc hok5 fun hok6 => ?_
  refine ARun.go 60 ?_
  simp only [W, seval, c109, hn, hi]
  refine retc (v := ?_) Tryz.func109 (by rfl) ?_ ?_
  rotate_left
  ·simp only [W, seval, c109, hn, hi]
   exact rfl
  refine PF.retJ (fun _ _ => rfl) ?_
  exact ⟨rfl, 0, hok6, rfl⟩
 have e5 := got_no hg_s5
 subst e5
 dsimp only at hK
 have hsp := set_pp bs h0 hl hE hdE m (by omega) s5 (by omega)
 rw [hK] at hsp
 unfold stV at hsp ⊢
 refine ARun.go 20 ?_
 simp only [W, seval, c109, hn, hi]
 refine PP.call hsp hc hok5 fun hok6 => ?_
 refine ARun.go 60 ?_
 simp only [W, seval, c109, hn, hi]
 refine retc (v := ?_) Tryz.func109 (by rfl) ?_ ?_
 rotate_left
 ·simp only [W, seval, c109, hn, hi]
  exact rfl
 refine PF.retJ (fun _ _ => rfl) ?_
 exact ⟨rfl, 0, hok6, rfl⟩
def c18 := by
 have c := KK_of Tryz.f18 (by conv => lhs; cbv)
 dsimp only [KK, KxP, doO, opO, List.map_cons, List.map_nil, List.toList_toArray] at c
 exact c
theorem b18 : FnIs Tryz.prog 18 Tryz.f18 31 := ⟨Tryz.func18, by kernel_rfl⟩
theorem param_lt {m : Nat} {s s1 : Ps} {x : PaT} (h : paramP m s = (x, s1)) (hp : 0 < mu s) : mu s1 < mu s := by
 unfold paramP at h
 obtain ⟨⟨t, s2⟩, h2⟩ : ∃ r, nameP s = r := ⟨_, rfl⟩
 obtain ⟨⟨y, s3⟩, h3⟩ : ∃ r, typP m s2 = r := ⟨_, rfl⟩
 rw [h2] at h
 dsimp only at h
 rw [h3] at h
 obtain ⟨_, rfl⟩ := Prod.mk.inj h
 have := name_lt h2 hp
 have := (dn_typ h3).le
 dsimp only
 omega
theorem pa1 (x : PaT) : rowsSz 4 [paD x] = true := rowsSz_pa [x]
theorem rows4 (x : PaT) : [D.str x.name, .int .i64 x.type.kind, .str x.type.name, .sl (x.type.elem.map tyD)] = paD x := rfl
def suT (tx : List UInt8) (l : List PaT) (t : Nat) : List V := [.d (.str tx), .sl (l.map paD) (.own t)]
set_option maxHeartbeats 8000000 in
theorem struct_pp (bs : List UInt8) (h0 : True) (hl : bs.length ≤ 100000) (m : Nat) (s : Ps) (hs : mu s < m) :
 PP bs 18 [] s (suV (structP m s).1) (structP m s).2 := by
 intro c B T i hc hok
 obtain ⟨N, hn⟩ : ∃ N, B.length = N := ⟨_, rfl⟩
 obtain ⟨t, ht⟩ : ∃ t, T.length = t := ⟨_, rfl⟩
 have hi : c < N := by omega
 have hmu := hok.mu_le
 obtain ⟨K, hK⟩ : ∃ K, structP m s = K := ⟨_, rfl⟩
 rw [hK]
 unfold structP at hK
 refine b18.go 20 rfl fun hsm => ?_
 simp only [smw] at hsm
 simp only [W, seval, c18, hn, hi]
 obtain ⟨⟨tx, s1⟩, hg_s1⟩ : ∃ r, nameP s = r := ⟨_, rfl⟩
 have hp_s1 := name_pp bs h0 hl s
 rw [hg_s1] at hp_s1
 dsimp only at hp_s1
 first
  | refine PP.call0 hp_s1 hc hok fun hok1 => ?_
  | refine PP.call hp_s1 hc hok fun hok1 => ?_
 have hd1 := (dn_name hg_s1).le
 rw [hg_s1] at hK
 dsimp only at hK
 have hd2 := (dn_want s1 [115, 116, 114, 117, 99, 116]).le
 have hd3 := (dn_want (wantP s1 [115, 116, 114, 117, 99, 116]) [123]).le
 refine ARun.go 20 ?_
 simp only [W, seval, c18, hn, hi]
 first
  | refine PP.call0 (want_pp bs h0 hl s1 [115, 116, 114, 117, 99, 116]) hc hok1 fun hok2 => ?_
  | refine PP.call (want_pp bs h0 hl s1 [115, 116, 114, 117, 99, 116]) hc hok1 fun hok2 => ?_
 refine ARun.go 20 ?_
 simp only [W, seval, c18, hn, hi]
 first
  | refine PP.call0 (want_pp bs h0 hl (wantP s1 [115, 116, 114, 117, 99, 116]) [123]) hc hok2 fun hok3 => ?_
  | refine PP.call (want_pp bs h0 hl (wantP s1 [115, 116, 114, 117, 99, 116]) [123]) hc hok2 fun hok3 => ?_
 generalize wantP (wantP s1 [115, 116, 114, 117, 99, 116]) [123] = s4 at *
 obtain ⟨⟨l0, s0⟩, hL⟩ : ∃ r, fieldL m m s4 = r := ⟨_, rfl⟩
 rw [hL] at hK
 dsimp only at hK
 subst hK
 refine ARun.go 2 ?_
 simp only [W, seval, c18]
 refine ARun.tokenB (N + 1) 1 _ [] (by rw [bx_loc (by simpa using hn)]; rfl) (by rfl) 4 (by omega) rfl ?_
 rw [bx_set_loc (by simpa using hn)]
 change ARun _ _ _ _ _ _ ⟨B.set c (bxP bs s4) ++ [[.d (.str []), .sl [] .full], suT tx [] T.length], T ++ [(0, 4)]⟩ _
 rw [ht]
 refine ARun.go 5 ?_
 simp only [W, seval, c18]
 refine ARun.after [_, _] _ (fun _ : Unit => (envS 31 [(0, .ptr c 0), (2, .ptr N 0), (3, .ptr (N + 1) 0)], ⟨B.set c (bxP bs s0) ++ [[.d (.str []), .sl [] .full], suT tx l0 t], T ++ [(l0.length, 4)]⟩)) (fun _ => OkP bs s0) ?_ ?_
 ·rintro ⟨⟩ hok0
  refine ARun.go 20 ?_
  simp only [W, seval, c18]
  first
   | refine PP.call0 (want_pp bs h0 hl s0 [125]) hc hok0 fun hok5 => ?_
   | refine PP.call (want_pp bs h0 hl s0 [125]) hc hok0 fun hok5 => ?_
  refine ARun.go 20 ?_
  simp only [W, seval, c18, hn, hi, suT]
  refine retc (v := ?_) Tryz.func18 (by rfl) ?_ ?_
  rotate_left
  ·simp only [W, seval, c18, hn, hi]
   exact rfl
  refine PF.ret (fun _ _ => rfl) ?_
  refine ⟨?_, 0, hok5, rfl⟩
  simp only [W, seval, c18, wk, wkL, suV, List.length_set, ht, Nat.lt_irrefl]
 intro K' hend
 refine ARun.loopW (fun a : List PaT × Ps => (envS 31 [(0, .ptr c 0), (2, .ptr N 0), (3, .ptr (N + 1) 0)], ⟨B.set c (bxP bs a.2) ++ [[.d (.str []), .sl [] .full], suT tx a.1 t], T ++ [(a.1.length, 4)]⟩)) (fun a => OkP bs a.2 ∧ a.1.length + mu a.2 ≤ mu s ∧ ∃ q, mu a.2 < q ∧ (a.1 ++ (fieldL m q a.2).1, (fieldL m q a.2).2) = (l0, s0)) (fun a => mu a.2) ([], s4) ⟨hok3, by simp; omega, m, by dsimp only; omega, by dsimp only; rw [hL, List.nil_append]⟩ ?_ rfl ?_
 ·skip
  refine Agree.env _ ?_
  simp only [agw, seval, hn]
 rintro ⟨l, s5⟩ ⟨hok5, hle, q, hq, hr⟩ ih
 dsimp only at hok5 hle hq hr ih ⊢
 cases q with
 | zero => omega
 | succ q =>
 rw [fieldL] at hr
 by_cases he : s5.e = 0
 case neg =>
  have e1 := decide_eq_false he
  rw [if_neg (fun h => he h.1)] at hr
  dsimp only at hr
  rw [List.append_nil] at hr
  obtain ⟨rfl, rfl⟩ := Prod.mk.inj hr
  refine ARun.goK (k := [_, _, _]) 80 ?_
  simp only [W, seval, c18, hn, hi, bxP, e1]
  refine hend () hok5 _ _ ?_ rfl
  refine Agree.env _ ?_
  simp only [agw, seval, hn]
 have e1 := decide_eq_true he
 refine ARun.goK (k := [_, _, _]) 80 ?_
 simp only [W, seval, c18, hn, hi, bxP, e1]
 refine PP.call (is_pp bs s5 [125]) hc hok5 fun _ => ?_
 cases q1 : isP s5 [125]
 case' true =>
  rw [if_neg (fun h => by rw [q1] at h; exact absurd h.2 (by decide))] at hr
  dsimp only at hr
  rw [List.append_nil] at hr
  obtain ⟨rfl, rfl⟩ := Prod.mk.inj hr
  refine ARun.goK 80 ?_
  simp only [W, seval, c18, hn, hi]
  refine hend () hok5 _ _ ?_ rfl
  refine Agree.env _ ?_
  simp only [agw, seval, hn]
 case' false =>
  rw [if_pos ⟨he, q1⟩] at hr
  have hmp : 0 < mu s5 := by rw [mu_live he, (hok5 he).2.2]; simp
  obtain ⟨⟨x, s6⟩, hx⟩ : ∃ r, paramP m s5 = r := ⟨_, rfl⟩
  have hpx := param_pp bs h0 hl m s5 (by omega)
  have hlx := param_lt hx hmp
  rw [hx] at hpx hr
  dsimp only at hpx hr
  unfold paV at hpx
  have hcap : (l.length + 1) * 64 ≤ 140737488355328 := by omega
  have hmap : l.map paD ++ [paD x] = (l ++ [x]).map paD := by simp
  have hlen : (l ++ [x]).length = l.length + 1 := by simp
  refine ARun.goK 10 ?_
  simp only [W, seval, c18, hn, hi]
  refine PP.wit hpx hc hok5 (ha0 (by rfl)) fun hok6 => ?_
  refine ARun.drawE 6 [3, 5, 7] (fun S => S.boxes[N + 1]? = some (suT tx l t)) (by kernel_rfl) (by kernel_rfl) (by kernel_rfl) (by kernel_rfl) (by kernel_rfl) ?_
  simp only [W, seval, c18]
  refine lexC_q (v := ?_) (by rfl) (by kernel_rfl) (fun S hS => ?_) ?_
  rotate_left
  ·simp only [W, seval, c18]
   exact rfl
  simp only [W, seval, c18]
  refine lexC_q (v := ?_) (by rfl) (by kernel_rfl) (fun S hS => ?_) ?_
  rotate_left
  ·try dsimp only at hS
   simp only [W, seval, c18, hS, suT]
   exact rfl
  simp only [W, seval, c18]
  refine lexC_q (v := ?_) (by rfl) (by kernel_rfl) (fun S hS => ?_) ?_
  rotate_left
  ·simp only [W, seval, c18]
   exact rfl
  simp only [W, seval, c18]
  refine PP.lexc (hpx) hc hok5 hok6 ?_ (by rfl) (by kernel_rfl) ?_ ?_
  ·first | trivial | simp [bx_loc, bx_loc0, hn]
  ·simp only [W, seval, c18]
   exact ⟨_, _, rfl, rfl, by rfl, by simp only [W, seval, c18]⟩
  simp only [W, seval, c18]
  refine lexC_q (v := ?_) (by rfl) (by kernel_rfl) (fun S hS => ?_) ?_
  rotate_left
  ·simp only [W, seval, c18, mapD_nil, mapD_cons, Nat.reduceMul, rows4]
   exact rfl
  simp only [W, seval, c18]
  refine lexC_w (v := ?_) (S' := ?_) ?_ (by rfl) (by kernel_rfl) ?_ ?_
  rotate_left 2
  ·first | trivial | simp [bx_loc, bx_loc0, hn, ht, hcap, hmap, pa1, Nat.reduceMul]
  ·simp only [W, seval, c18, hn, ht, hcap, hmap, pa1, Nat.reduceMul]
   exact rfl
  simp only [W, seval, c18]
  refine lexC_end (by simp [bx_loc, hn]) ?_
  refine lexC_q (v := ?_) (by rfl) (by kernel_rfl) (fun S hS => ?_) ?_
  rotate_left
  ·simp only [W, seval, c18]
   exact rfl
  simp only [W, seval, c18]
  refine lexC_w (v := ?_) (S' := ?_) ?_ (by rfl) (by kernel_rfl) ?_ ?_
  rotate_left 2
  ·first | trivial | simp [bx_loc, bx_loc0, hn, suT]
  ·simp only [W, seval, c18, hn, suT]
   exact rfl
  simp only [W, seval, c18]
  refine lexC_end trivial ?_
  refine ARun.goK (k := [_, _, _]) 1 ?_
  simp only [W, seval, c18]
  refine ih (l ++ [x], s6) ⟨hok6, by dsimp only; omega, q, by dsimp only; omega, by rw [← hr]; simp⟩ (by dsimp only; omega) _ _ ?_ (by dsimp only; rw [hlen]; rfl)
  refine Agree.env _ ?_
  simp only [agw, seval, hn]
def c19 := by
 have c := KK_of Tryz.f19 (by conv => lhs; cbv)
 dsimp only [KK, KxP, doO, opO, List.map_cons, List.map_nil, List.toList_toArray] at c
 exact c
theorem b19 : FnIs Tryz.prog 19 Tryz.f19 44 := ⟨Tryz.func19, by kernel_rfl⟩
theorem rows3 (x : TyT) : [D.int .i64 x.kind, .str x.name, .sl (x.elem.map tyD)] = tyD x := (tyD_eq x).symm
theorem tyr1 (x : TyT) : rowsSz 3 [tyD x] = true := rowsSz_ty [x]
def fuP (tx : List UInt8) (l : List PaT) (t : Nat) : List V := [.d (.str tx), .sl (l.map paD) (.own t), .sl [] .full, .sl [] .full]
def fuR (tx : List UInt8) (l : List PaT) (r : List TyT) (t : Nat) : List V := [.d (.str tx), .sl (l.map paD) (.own t), .sl (r.map tyD) (.own (t + 1)), .sl [] .full]
set_option maxHeartbeats 8000000 in
theorem func_pp (bs : List UInt8) (h0 : True) (hl : bs.length ≤ 100000) {S : SP} {n : Nat} (hS : SOk bs S n) (m : Nat) (hm : n ≤ m) (s : Ps) (hs : mu s < n) :
 PP bs 19 [] s (fuV (funcP S m s).1) (funcP S m s).2 := by
 intro c B T i hc hok
 obtain ⟨N, hn⟩ : ∃ N, B.length = N := ⟨_, rfl⟩
 obtain ⟨t, ht⟩ : ∃ t, T.length = t := ⟨_, rfl⟩
 have hi : c < N := by omega
 have hmu := hok.mu_le
 obtain ⟨K, hK⟩ : ∃ K, funcP S m s = K := ⟨_, rfl⟩
 rw [hK]
 unfold funcP at hK
 refine b19.go 20 rfl fun hsm => ?_
 simp only [smw] at hsm
 simp only [W, seval, c19, hn, hi]
 obtain ⟨⟨tx, s1⟩, hg_s1⟩ : ∃ r, nameP s = r := ⟨_, rfl⟩
 have hp_s1 := name_pp bs h0 hl s
 rw [hg_s1] at hp_s1
 dsimp only at hp_s1
 first
  | refine PP.call0 hp_s1 hc hok fun hok1 => ?_
  | refine PP.call hp_s1 hc hok fun hok1 => ?_
 have hd1 := (dn_name hg_s1).le
 rw [hg_s1] at hK
 dsimp only at hK
 have hd2 := (dn_want s1 [40]).le
 refine ARun.go 20 ?_
 simp only [W, seval, c19, hn, hi]
 first
  | refine PP.call0 (want_pp bs h0 hl s1 [40]) hc hok1 fun hok2 => ?_
  | refine PP.call (want_pp bs h0 hl s1 [40]) hc hok1 fun hok2 => ?_
 generalize wantP s1 [40] = s2 at *
 obtain ⟨⟨l0, s3⟩, hL⟩ : ∃ r, (if isP s2 [41] = true then (([], s2) : List PaT × Ps) else paramL m m s2) = r := ⟨_, rfl⟩
 rw [hL] at hK
 dsimp only at hK
 refine ARun.go 2 ?_
 simp only [W, seval, c19]
 refine ARun.tokenB (N + 1) 1 _ [] (by rw [bx_loc (by simpa using hn)]; rfl) (by rfl) 4 (by omega) rfl ?_
 rw [bx_set_loc (by simpa using hn)]
 change ARun _ _ _ _ _ _ ⟨B.set c (bxP bs s2) ++ [[.d (.str []), .sl [] .full, .sl [] .full, .sl [] .full], fuP tx [] T.length], T ++ [(0, 4)]⟩ _
 rw [ht]
 refine ARun.go 10 ?_
 simp only [W, seval, c19]
 refine PP.call (is_pp bs s2 [41]) hc hok2 fun _ => ?_
 refine ARun.go 5 ?_
 simp only [W, seval, c19]
 refine ARun.after [_, _] _ (fun _ : Unit => (envS 44 [(0, .ptr c 0), (2, .ptr N 0), (3, .ptr (N + 1) 0)], ⟨B.set c (bxP bs s3) ++ [[.d (.str []), .sl [] .full, .sl [] .full, .sl [] .full], fuP tx l0 t], T ++ [(l0.length, 4)]⟩)) (fun _ => OkP bs s3 ∧ mu s3 ≤ mu s2) ?_ ?_
 case refine_2 =>
  intro K' hend
  refine ARun.loopW (fun a : List PaT × Bool × Ps => (envS 44 [(0, .ptr c 0), (2, .ptr N 0), (3, .ptr (N + 1) 0), (4, .d (.bool a.2.1))], ⟨B.set c (bxP bs a.2.2) ++ [[.d (.str []), .sl [] .full, .sl [] .full, .sl [] .full], fuP tx a.1 t], T ++ [(a.1.length, 4)]⟩)) (fun a => OkP bs a.2.2 ∧ mu a.2.2 ≤ mu s2 ∧ (a.2.1 = true → a.1.length + mu a.2.2 ≤ mu s ∧ ∃ k, mu a.2.2 < k ∧ (a.1 ++ (paramL m k a.2.2).1, (paramL m k a.2.2).2) = (l0, s3)) ∧ (a.2.1 = false → (a.1, a.2.2) = (l0, s3))) (fun a => if a.2.1 = true then mu a.2.2 + 1 else 0) ([], !isP s2 [41], s2) ⟨hok2, Nat.le_refl _, fun h => ⟨by simp; omega, m, by dsimp only; omega, ?_⟩, fun h => ?_⟩ ?_ rfl ?_
  ·dsimp only at h ⊢
   rw [if_neg (by simpa using h)] at hL
   rw [hL, List.nil_append]
  ·dsimp only at h ⊢
   rw [if_pos (by simpa using h)] at hL
   exact hL
  ·skip
   refine Agree.env _ ?_
   simp only [agw, seval, hn]
  rintro ⟨l, b, s4⟩ ⟨hok4, hn2, hy, hno⟩ ih
  dsimp only at hok4 hn2 hy hno ih ⊢
  cases b
  case' false =>
   obtain ⟨rfl, rfl⟩ := Prod.mk.inj (hno rfl)
   refine ARun.goK (k := [_, _, _]) 20 ?_
   simp only [W, seval, c19, hn, hi]
   refine hend () ⟨hok4, hn2⟩ _ _ ?_ rfl
   refine Agree.env _ ?_
   simp only [agw, seval, hn]
  case' true =>
   obtain ⟨hle, k, hk, hr⟩ := hy rfl
   cases k with
   | zero => omega
   | succ k =>
   rw [paramL] at hr
   obtain ⟨⟨x, s5⟩, hx⟩ : ∃ r, paramP m s4 = r := ⟨_, rfl⟩
   have hpx := param_pp bs h0 hl m s4 (by omega)
   have hd5 := (dn_param hx).le
   rw [hx] at hpx hr
   dsimp only at hpx hr
   unfold paV at hpx
   have hcap : (l.length + 1) * 64 ≤ 140737488355328 := by omega
   have hmap : l.map paD ++ [paD x] = (l ++ [x]).map paD := by simp
   have hlen : (l ++ [x]).length = l.length + 1 := by simp
   refine ARun.goK (k := [_, _, _]) 11 ?_
   simp only [W, seval, c19, hn, hi]
   refine PP.wit hpx hc hok4 (ha0 (by rfl)) fun hok5 => ?_
   refine ARun.drawE 6 [3, 5, 7] (fun S => S.boxes[N + 1]? = some (fuP tx l t)) (by kernel_rfl) (by kernel_rfl) (by kernel_rfl) (by kernel_rfl) (by kernel_rfl) ?_
   simp only [W, seval, c19]
   refine lexC_q (v := ?_) (by rfl) (by kernel_rfl) (fun S hS => ?_) ?_
   rotate_left
   ·simp only [W, seval, c19]
    exact rfl
   simp only [W, seval, c19]
   refine lexC_q (v := ?_) (by rfl) (by kernel_rfl) (fun S hS => ?_) ?_
   rotate_left
   ·try dsimp only at hS
    simp only [W, seval, c19, hS, fuP]
    exact rfl
   simp only [W, seval, c19]
   refine lexC_q (v := ?_) (by rfl) (by kernel_rfl) (fun S hS => ?_) ?_
   rotate_left
   ·simp only [W, seval, c19]
    exact rfl
   simp only [W, seval, c19]
   refine PP.lexc (hpx) hc hok4 hok5 ?_ (by rfl) (by kernel_rfl) ?_ ?_
   ·first | trivial | simp [bx_loc, bx_loc0, hn]
   ·simp only [W, seval, c19]
    exact ⟨_, _, rfl, rfl, by rfl, by simp only [W, seval, c19]⟩
   simp only [W, seval, c19]
   refine lexC_q (v := ?_) (by rfl) (by kernel_rfl) (fun S hS => ?_) ?_
   rotate_left
   ·simp only [W, seval, c19, mapD_nil, mapD_cons, Nat.reduceMul, rows4]
    exact rfl
   simp only [W, seval, c19]
   refine lexC_w (v := ?_) (S' := ?_) ?_ (by rfl) (by kernel_rfl) ?_ ?_
   rotate_left 2
   ·first | trivial | simp [bx_loc, bx_loc0, hn, ht, hcap, hmap, pa1, Nat.reduceMul]
   ·simp only [W, seval, c19, hn, ht, hcap, hmap, pa1, Nat.reduceMul]
    exact rfl
   simp only [W, seval, c19]
   refine lexC_end (by simp [bx_loc, hn]) ?_
   refine lexC_q (v := ?_) (by rfl) (by kernel_rfl) (fun S hS => ?_) ?_
   rotate_left
   ·simp only [W, seval, c19]
    exact rfl
   simp only [W, seval, c19]
   refine lexC_w (v := ?_) (S' := ?_) ?_ (by rfl) (by kernel_rfl) ?_ ?_
   rotate_left 2
   ·first | trivial | simp [bx_loc, bx_loc0, hn, fuP]
   ·simp only [W, seval, c19, hn, fuP]
    exact rfl
   simp only [W, seval, c19]
   refine lexC_end trivial ?_
   refine ARun.goK (k := [_, _, _, _]) 20 ?_
   simp only [W, seval, c19]
   obtain ⟨⟨b, s6⟩, hg_s6⟩ : ∃ r, gotP s5 [44] = r := ⟨_, rfl⟩
   have hp_s6 := got_pp bs h0 hl s5 [44]
   rw [hg_s6] at hp_s6
   dsimp only at hp_s6
   first
    | refine PP.call0 hp_s6 hc hok5 fun hok6 => ?_
    | refine PP.call hp_s6 hc hok5 fun hok6 => ?_
   rw [hg_s6] at hr
   have hd6 := (dn_got hg_s6).le
   cases b
   case' false =>
    dsimp only at hr
    obtain ⟨hr1, hr2⟩ := Prod.mk.inj hr
    refine ARun.goK 20 ?_
    simp only [W, seval, c19, hn, hi]
    refine ih (l ++ [x], false, s6) ⟨hok6, by dsimp only; omega, fun h => absurd h (by simp), fun _ => by rw [hr1, hr2]⟩ (by simp) _ _ ?_ (by dsimp only; rw [hlen]; rfl)
    refine Agree.env _ ?_
    simp only [agw, seval, hn]
   case' true =>
    have hlt := got_lt hg_s6
    dsimp only at hr
    refine ARun.goK 20 ?_
    simp only [W, seval, c19, hn, hi]
    refine ih (l ++ [x], true, s6) ⟨hok6, by dsimp only; omega, fun _ => ⟨by dsimp only; omega, k, by dsimp only; omega, by rw [← hr]; simp⟩, fun h => absurd h (by simp)⟩ (by simp; omega) _ _ ?_ (by dsimp only; rw [hlen]; rfl)
    refine Agree.env _ ?_
    simp only [agw, seval, hn]
 rintro ⟨⟩ ⟨hok3, hd3⟩
 have hd4 := (dn_want s3 [41]).le
 have hd5 := (dn_want (wantP s3 [41]) [40]).le
 refine ARun.go 20 ?_
 simp only [W, seval, c19, hn, hi]
 first
  | refine PP.call0 (want_pp bs h0 hl s3 [41]) hc hok3 fun hok4 => ?_
  | refine PP.call (want_pp bs h0 hl s3 [41]) hc hok3 fun hok4 => ?_
 refine ARun.go 20 ?_
 simp only [W, seval, c19, hn, hi]
 first
  | refine PP.call0 (want_pp bs h0 hl (wantP s3 [41]) [40]) hc hok4 fun hok5 => ?_
  | refine PP.call (want_pp bs h0 hl (wantP s3 [41]) [40]) hc hok4 fun hok5 => ?_
 generalize wantP (wantP s3 [41]) [40] = s4 at *
 obtain ⟨⟨r0, s5⟩, hR⟩ : ∃ r, typeL m m s4 = r := ⟨_, rfl⟩
 rw [hR] at hK
 dsimp only at hK
 refine ARun.go 2 ?_
 simp only [W, seval, c19]
 refine ARun.tokenB (N + 1) 2 _ [] (by rw [bx_loc (by simpa using hn)]; rfl) (by rfl) 3 (by omega) rfl ?_
 rw [bx_set_loc (by simpa using hn), List.append_assoc, List.length_append, ht]
 change ARun _ _ _ _ _ _ ⟨B.set c (bxP bs s4) ++ [[.d (.str []), .sl [] .full, .sl [] .full, .sl [] .full], fuR tx l0 [] t], T ++ [(l0.length, 4), (0, 3)]⟩ _
 refine ARun.go 10 ?_
 simp only [W, seval, c19]
 refine ARun.after [_, _] _ (fun _ : Unit => (envS 44 [(0, .ptr c 0), (2, .ptr N 0), (3, .ptr (N + 1) 0)], ⟨B.set c (bxP bs s5) ++ [[.d (.str []), .sl [] .full, .sl [] .full, .sl [] .full], fuR tx l0 r0 t], T ++ [(l0.length, 4), (r0.length, 3)]⟩)) (fun _ => OkP bs s5 ∧ mu s5 ≤ mu s4) ?_ ?_
 case refine_2 =>
  intro K' hend
  refine ARun.loopW (fun a : List TyT × Bool × Ps => (envS 44 [(0, .ptr c 0), (2, .ptr N 0), (3, .ptr (N + 1) 0), (5, .d (.bool a.2.1))], ⟨B.set c (bxP bs a.2.2) ++ [[.d (.str []), .sl [] .full, .sl [] .full, .sl [] .full], fuR tx l0 a.1 t], T ++ [(l0.length, 4), (a.1.length, 3)]⟩)) (fun a => OkP bs a.2.2 ∧ mu a.2.2 ≤ mu s4 ∧ (a.2.1 = true → a.1.length + mu a.2.2 ≤ mu s ∧ ∃ k, mu a.2.2 < k ∧ (a.1 ++ (typeL m k a.2.2).1, (typeL m k a.2.2).2) = (r0, s5)) ∧ (a.2.1 = false → (a.1, a.2.2) = (r0, s5))) (fun a => if a.2.1 = true then mu a.2.2 + 1 else 0) ([], true, s4) ⟨hok5, Nat.le_refl _, fun _ => ⟨by simp; omega, m, by dsimp only; omega, by dsimp only; rw [hR, List.nil_append]⟩, fun h => absurd h (by simp)⟩ ?_ rfl ?_
  ·skip
   refine Agree.env _ ?_
   simp only [agw, seval, hn]
  rintro ⟨l, b, s6⟩ ⟨hok6, hn2, hy, hno⟩ ih
  dsimp only at hok6 hn2 hy hno ih ⊢
  cases b
  case' false =>
   obtain ⟨rfl, rfl⟩ := Prod.mk.inj (hno rfl)
   refine ARun.goK (k := [_, _, _]) 20 ?_
   simp only [W, seval, c19, hn, hi]
   refine hend () ⟨hok6, hn2⟩ _ _ ?_ rfl
   refine Agree.env _ ?_
   simp only [agw, seval, hn]
  case' true =>
   obtain ⟨hle, k, hk, hr⟩ := hy rfl
   cases k with
   | zero => omega
   | succ k =>
   rw [typeL] at hr
   obtain ⟨⟨x, s7⟩, hx⟩ : ∃ r, typP m s6 = r := ⟨_, rfl⟩
   have hpx := typ_pp bs h0 hl m s6 (by omega)
   have hd7 := (dn_typ hx).le
   rw [hx] at hpx hr
   dsimp only at hpx hr
   unfold tyV at hpx
   have hcap : (l.length + 1) * 48 ≤ 140737488355328 := by omega
   have hmap : l.map tyD ++ [tyD x] = (l ++ [x]).map tyD := by simp
   have hlen : (l ++ [x]).length = l.length + 1 := by simp
   refine ARun.goK (k := [_, _, _]) 11 ?_
   simp only [W, seval, c19, hn, hi]
   refine PP.wit hpx hc hok6 (ha0 (by rfl)) fun hok7 => ?_
   refine ARun.drawE 6 [3, 5, 7] (fun S => S.boxes[N + 1]? = some (fuR tx l0 l t)) (by kernel_rfl) (by kernel_rfl) (by kernel_rfl) (by kernel_rfl) (by kernel_rfl) ?_
   simp only [W, seval, c19]
   refine lexC_q (v := ?_) (by rfl) (by kernel_rfl) (fun S hS => ?_) ?_
   rotate_left
   ·simp only [W, seval, c19]
    exact rfl
   simp only [W, seval, c19]
   refine lexC_q (v := ?_) (by rfl) (by kernel_rfl) (fun S hS => ?_) ?_
   rotate_left
   ·try dsimp only at hS
    simp only [W, seval, c19, hS, fuR]
    exact rfl
   simp only [W, seval, c19]
   refine lexC_q (v := ?_) (by rfl) (by kernel_rfl) (fun S hS => ?_) ?_
   rotate_left
   ·simp only [W, seval, c19]
    exact rfl
   simp only [W, seval, c19]
   refine PP.lexc (hpx) hc hok6 hok7 ?_ (by rfl) (by kernel_rfl) ?_ ?_
   ·first | trivial | simp [bx_loc, bx_loc0, hn]
   ·simp only [W, seval, c19]
    exact ⟨_, _, rfl, rfl, by rfl, by simp only [W, seval, c19]⟩
   simp only [W, seval, c19]
   refine lexC_q (v := ?_) (by rfl) (by kernel_rfl) (fun S hS => ?_) ?_
   rotate_left
   ·simp only [W, seval, c19, mapD_nil, mapD_cons, Nat.reduceMul, rows3]
    exact rfl
   simp only [W, seval, c19]
   refine lexC_w (v := ?_) (S' := ?_) ?_ (by rfl) (by kernel_rfl) ?_ ?_
   rotate_left 2
   ·first | trivial | simp [bx_loc, bx_loc0, hn, ht, hcap, hmap, tyr1, Nat.reduceMul]
   ·simp only [W, seval, c19, hn, ht, hcap, hmap, tyr1, Nat.reduceMul]
    exact rfl
   simp only [W, seval, c19]
   refine lexC_end (by simp [bx_loc, hn]) ?_
   refine lexC_q (v := ?_) (by rfl) (by kernel_rfl) (fun S hS => ?_) ?_
   rotate_left
   ·simp only [W, seval, c19]
    exact rfl
   simp only [W, seval, c19]
   refine lexC_w (v := ?_) (S' := ?_) ?_ (by rfl) (by kernel_rfl) ?_ ?_
   rotate_left 2
   ·first | trivial | simp [bx_loc, bx_loc0, hn, fuR]
   ·simp only [W, seval, c19, hn, fuR]
    exact rfl
   simp only [W, seval, c19]
   refine lexC_end trivial ?_
   refine ARun.goK (k := [_, _, _, _]) 20 ?_
   simp only [W, seval, c19]
   obtain ⟨⟨b, s8⟩, hg_s8⟩ : ∃ r, gotP s7 [44] = r := ⟨_, rfl⟩
   have hp_s8 := got_pp bs h0 hl s7 [44]
   rw [hg_s8] at hp_s8
   dsimp only at hp_s8
   first
    | refine PP.call0 hp_s8 hc hok7 fun hok8 => ?_
    | refine PP.call hp_s8 hc hok7 fun hok8 => ?_
   rw [hg_s8] at hr
   have hd8 := (dn_got hg_s8).le
   cases b
   case' false =>
    dsimp only at hr
    obtain ⟨hr1, hr2⟩ := Prod.mk.inj hr
    refine ARun.goK 20 ?_
    simp only [W, seval, c19, hn, hi]
    refine ih (l ++ [x], false, s8) ⟨hok8, by dsimp only; omega, fun h => absurd h (by simp), fun _ => by rw [hr1, hr2]⟩ (by simp) _ _ ?_ (by dsimp only; rw [hlen]; rfl)
    refine Agree.env _ ?_
    simp only [agw, seval, hn]
   case' true =>
    have hlt := got_lt hg_s8
    dsimp only at hr
    refine ARun.goK 20 ?_
    simp only [W, seval, c19, hn, hi]
    refine ih (l ++ [x], true, s8) ⟨hok8, by dsimp only; omega, fun _ => ⟨by dsimp only; omega, k, by dsimp only; omega, by rw [← hr]; simp⟩, fun h => absurd h (by simp)⟩ (by simp; omega) _ _ ?_ (by dsimp only; rw [hlen]; rfl)
    refine Agree.env _ ?_
    simp only [agw, seval, hn]
 rintro ⟨⟩ ⟨hok6, hd6⟩
 have hd7 := (dn_want s5 [41]).le
 have hbp := block_pp bs h0 hl hS m (wantP s5 [41]) (by omega) (by omega)
 obtain ⟨⟨b, s7⟩, hb⟩ : ∃ r, blockP S m (wantP s5 [41]) = r := ⟨_, rfl⟩
 rw [hb] at hbp hK
 dsimp only at hbp hK
 subst hK
 refine ARun.go 20 ?_
 simp only [W, seval, c19, hn, hi]
 first
  | refine PP.call0 (want_pp bs h0 hl s5 [41]) hc hok6 fun hok7 => ?_
  | refine PP.call (want_pp bs h0 hl s5 [41]) hc hok6 fun hok7 => ?_
 refine ARun.go 20 ?_
 simp only [W, seval, c19, hn, hi]
 refine PP.call hbp hc hok7 fun hok8 => ?_
 refine ARun.go 40 ?_
 simp only [W, seval, c19, hn, hi, fuR]
 refine retc (v := ?_) Tryz.func19 (by rfl) ?_ ?_
 rotate_left
 ·simp only [W, seval, c19, hn, hi]
  exact rfl
 refine PF.ret (fun _ _ => rfl) ?_
 refine ⟨?_, 0, hok8, rfl⟩
 have ht2 : ¬ t + 1 < t := by omega
 simp only [W, seval, c19, wk, wkL, fuV, List.length_set, ht, Nat.lt_irrefl, ht2]
def c14 := by
 have c := KK_of Tryz.f14 (by conv => lhs; cbv)
 dsimp only [KK, KxP, doO, opO, List.map_cons, List.map_nil, List.toList_toArray] at c
 exact c
def c21 := by
 have c := KK_of Tryz.f21 (by conv => lhs; cbv)
 dsimp only [KK, KxP, doO, opO, List.map_cons, List.map_nil, List.toList_toArray] at c
 exact c
theorem b21 : FnIs Tryz.prog 21 Tryz.f21 36 := ⟨Tryz.func21, by kernel_rfl⟩
theorem expr_ok (bs : List UInt8) (h0 : True) (hl : bs.length ≤ 100000) (hF : ∀ {E : EP} {n : Nat}, EOk bs E n → DnE E → FOk bs E n) : ∀ n : Nat, EOk bs (exprF true n) n
 | 0 => fun s h => absurd h (Nat.not_lt_zero _)
 | n + 1 => by
  have ih := expr_ok bs h0 hl hF n
  have hd := dn_expr true n
  have hO : OOk bs (operP true (exprF true n) (n + 1)) (n + 1) := fun s hs =>
   oper_pp bs h0 hl (P := primP true (exprF true n) (n + 1)) (fun s hs => prim_pp bs h0 hl ih hd (hF ih hd) (n + 1) (by omega) s hs) (DnE.of fun h => dn_prim hd h) ih hd (n + 1) (by omega) s (by omega)
  intro s hs
  exact climb_pp bs h0 hl hO (DnE.of fun h => dn_oper hd h) (n + 1) (Nat.le_refl _) 5 (by omega) 1 rfl s hs
theorem stmt_ok (bs : List UInt8) (h0 : True) (hl : bs.length ≤ 100000) (hE : ∀ n : Nat, EOk bs (exprF true n) n) : ∀ n : Nat, SOk bs (stmtF true n) n
 | 0 => ⟨fun s h => absurd h (Nat.not_lt_zero _), fun s h => absurd h (Nat.not_lt_zero _)⟩
 | n + 1 => by
  have ih := stmt_ok bs h0 hl hE n
  refine ⟨fun s hs => stmt_pp bs h0 hl (hE (n + 1)) (dn_expr true (n + 1)) ih (dn_stmtF true n) (n + 1) (by omega) s hs, fun s hs hp => ?_⟩
  exact stmt_lt (dn_expr true (n + 1)) (dn_stmtF true n) (m := n + 1) (by omega) (x := (stmtF true (n + 1) s).1) rfl hp
theorem AFn.bodyN {P : Program} {I : Inv} {fn : FuncId} {f : Func} {body : Code} {args : List V} {S : Mem} {R : V → Mem → Prop} (n : Nat) (hf : P.funcs[fn]? = some f) (hb : f.body = some body) (hname : (f.name == "runtime.NumGoroutine") = false) (hn : f.ntmps = n) (hl : args.length ≤ n)
 (h : ARun P I (S.boxes.length, S.toks.length) fn [.code body] (envS n (numbered 0 args)) S R) : AFn P I fn args S R :=
 AFn.enter hf hb hname (by rw [hn, envS_args n args hl]; exact h)
def startS (bs : List UInt8) : Ps := if (takeS bs 0).2 = 0 then ⟨wordsAt bs 0, 0, 0, false⟩ else ⟨[WordS.zero], (takeS bs 0).2, 0, false⟩
theorem words0 (bs : List UInt8) : wordsAt bs 0 = if (takeS bs 0).2 = 0 then (if (takeS bs 0).1.kind = 0 then [(takeS bs 0).1] else (takeS bs 0).1 :: wordsAt bs (takeS bs 0).1.next) else [w9] := wordsAt_eq bs 0 (Nat.zero_le _)
theorem start_w {bs : List UInt8} (h : (takeS bs 0).2 = 0) : (startS bs).w = (takeS bs 0).1 := by
 unfold startS
 rw [if_pos h, words0, if_pos h]
 unfold Ps.w
 split <;> rfl
theorem start_ok (bs : List UInt8) : OkP bs (startS bs) := by
 by_cases h : (takeS bs 0).2 = 0
 ·intro _
  rw [start_w h]
  refine ⟨take_kind bs 0, take_next_le bs 0 (Nat.zero_le _) h, ?_⟩
  unfold startS
  rw [if_pos h]
  dsimp only
  rw [words0, if_pos h]
  split <;> rfl
 ·refine ok_dead ?_
  unfold startS
  rw [if_neg h]
  have := take_err bs 0 (Nat.zero_le _)
  show ¬ (((takeS bs 0).2 : Nat) : Int) = 0
  have h' : ¬ (takeS bs ((0 : Nat) : Int)).2 = 0 := h
  omega
theorem bxP_zero (bs : List UInt8) : bxP bs ⟨[WordS.zero], 0, 0, false⟩ = [.d (.sl (byD bs)), .d (.int .i64 0), .d (.str []), .d (.int .u64 0), .d (.int .i64 0), .d (.int .i64 0), .d (.int .i64 0), .d (.int .i64 0), .d (.bool false)] := rfl
set_option maxHeartbeats 4000000 in
theorem open_ab (bs : List UInt8) (h0 : True) (hl : bs.length ≤ 100000) (B : List (List V)) (T : List (Nat × Nat)) : AFn Tryz.prog TabI 14 [.d (.sl (byD bs))] ⟨B, T⟩ (Same (.ptr B.length 0) ⟨B ++ [bxP bs (startS bs)], T⟩) := by
 obtain ⟨N, hn⟩ : ∃ N, B.length = N := ⟨_, rfl⟩
 have hnx := next_raw bs h0 hl ⟨[WordS.zero], 0, 0, false⟩ (startS bs) rfl (fun h => ⟨start_w h, by unfold startS; rw [if_pos (show (takeS bs 0).2 = 0 from h)]⟩) (fun h => by
  have h' : ¬ (takeS bs 0).2 = 0 := h
  unfold startS
  rw [if_neg h']
  exact ⟨rfl, rfl⟩) (by unfold startS; split <;> rfl) (by unfold startS; split <;> rfl) N (B ++ [[]]) T (by simp; omega)
 have hset : ∀ X : List V, (B ++ [[]]).set N X = B ++ [X] := fun X => by
  rw [List.set_append_right _ _ (by omega), hn, Nat.sub_self]
  rfl
 rw [hset, hset, bxP_zero] at hnx
 have hlen : (byD bs).length = bs.length := by simp [byD]
 have hbig : decide (400000 < (bs.length : Int)) = false := decide_eq_false (by omega)
 have hb0 : [D.sl (byD bs)] = [D.sl (byD bs)] := rfl
 rw [hn]
 refine AFn.bodyN (body := (kF Tryz.f14 0)) 15 Tryz.func14 (by kernel_rfl) (by kernel_rfl) (by kernel_rfl) (Nat.le_of_ble_eq_true rfl) ?_
 refine ARun.go 60 ?_
 simp only [W, seval, c14, hn, hlen, hbig]
 refine callS_fn hnx ?_
 rintro _ _ ⟨rfl, rfl⟩
 refine ARun.go 20 ?_
 simp only [W, seval, c14, hn]
 refine ARun.ret Tryz.func14 rfl (id ?_)
 exact ⟨rfl, rfl⟩
def endP (s : Ps) (r : Bool) : Int := if s.e = 0 then (if s.w.kind = 0 ∧ r = true then 0 else 51) else s.e
set_option maxHeartbeats 4000000 in
theorem end_ab (bs : List UInt8) (s : Ps) (r : Bool) (g : FuncId) (caps : List V) (c : Nat) (B : List (List V)) (T : List (Nat × Nat)) (hc : c < B.length) (hg : AFn Tryz.prog TabI g caps ⟨B.set c (bxP bs s), T⟩ (Same (.d (.bool r)) ⟨B.set c (bxP bs s), T⟩)) :
 AFn Tryz.prog TabI 21 [.ptr c 0, .func g [] caps] ⟨B.set c (bxP bs s), T⟩ fun v m => v = .d (.int .i64 (endP s r)) ∧ ∃ s', m = ⟨B.set c (bxP bs s'), T⟩ := by
 obtain ⟨N, hn⟩ : ∃ N, B.length = N := ⟨_, rfl⟩
 have hi : c < N := by omega
 have hfl := fail_raw bs s 51 c B T hc
 have hk0 := dec_nat s.w.kind 0
 simp only [Int.natCast_zero] at hk0
 by_cases he : s.e = 0
 case neg =>
  have e1 := decide_eq_false he
  have hr : endP s r = s.e := if_neg he
  rw [hr]
  refine b21.go 60 rfl fun hsm => ?_
  simp only [smw] at hsm
  simp only [W, seval, c21, hn, hi, bxP, e1]
  refine ARun.ret Tryz.func21 rfl (PF.ret0 (fun _ _ => rfl) ?_)
  exact ⟨rfl, s, rfl⟩
 have e1 := decide_eq_true he
 have hfs : failP s 51 = ⟨s.ws, 51, s.o, s.h⟩ := if_pos he
 by_cases hk : s.w.kind = 0
 case neg =>
  have hr : endP s r = 51 := by unfold endP; rw [if_pos he, if_neg (fun h => hk h.1)]
  rw [decide_eq_false hk] at hk0
  rw [hr]
  refine b21.go 60 rfl fun hsm => ?_
  simp only [smw] at hsm
  simp only [W, seval, c21, hn, hi, bxP, e1, hk0]
  refine callS_fn hfl ?_
  rintro _ _ ⟨rfl, rfl⟩
  rw [hfs]
  refine ARun.go 60 ?_
  simp only [W, seval, c21, hn, hi, bxP]
  refine ARun.ret Tryz.func21 rfl (PF.ret0 (fun _ _ => rfl) ?_)
  exact ⟨rfl, ⟨s.ws, 51, s.o, s.h⟩, rfl⟩
 rw [decide_eq_true hk] at hk0
 refine b21.go 60 rfl fun hsm => ?_
 simp only [smw] at hsm
 simp only [W, seval, c21, hn, hi, bxP, e1, hk0]
 refine callS_of (Q := Same (.d (.bool r)) ⟨B.set c (bxP bs s), T⟩) (by rw [List.nil_append, List.nil_append]; exact hg) ?_
 rintro _ _ ⟨rfl, rfl⟩
 cases r
 ·have hr : endP s false = 51 := by unfold endP; rw [if_pos he, if_neg (fun h => absurd h.2 (by decide))]
  rw [hr]
  refine ARun.go 60 ?_
  simp only [W, seval, c21, hn, hi]
  refine callS_fn hfl ?_
  rintro _ _ ⟨rfl, rfl⟩
  rw [hfs]
  refine ARun.go 60 ?_
  simp only [W, seval, c21, hn, hi, bxP]
  refine ARun.ret Tryz.func21 rfl (PF.ret0 (fun _ _ => rfl) ?_)
  exact ⟨rfl, ⟨s.ws, 51, s.o, s.h⟩, rfl⟩
 ·have hr : endP s true = 0 := by unfold endP; rw [if_pos he, if_pos ⟨hk, rfl⟩]
  rw [hr]
  refine ARun.go 60 ?_
  simp only [W, seval, c21, hn, hi, bxP]
  refine ARun.ret Tryz.func21 rfl (PF.ret0 (fun _ _ => rfl) ?_)
  refine ⟨?_, s, rfl⟩
  rw [← he]
  rfl
end Go.Proofs.YtnnnhlkmdnacaaaGreatDoor
